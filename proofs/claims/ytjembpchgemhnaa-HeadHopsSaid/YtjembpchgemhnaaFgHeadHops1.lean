/- The walk of the law HeadHops of floodgate's head layer. There are no conditions. -/
import Derived.Test.YtjembpchgemhnaaFgHeadHop
set_option linter.unusedVariables false
set_option linter.unusedSimpArgs false
namespace Go.Proofs.Ytjembpchgemhnaa.Head
open Go.RowKit Go.Proofs.Ytjembpchgemhnaa.Fg Go.ChangeShapes Go.WideShapes Go.ChangeAt

def Hd.at (h : Hd) (n : Nat) : Hd := { h with ttl := h.ttl - n }
theorem at_zero (h : Hd) : h.at 0 = h := by cases h; simp [Hd.at]
theorem at_dec (h : Hd) (n : Nat) : (h.at n).dec = h.at (n + 1) := by cases h; simp [Hd.at, Hd.dec]; omega
theorem Hd.small.at {h : Hd} (hh : h.small) (n : Nat) : (h.at n).small := hh
theorem at_makes {h : Hd} {p : List Int} (hm : makes h p = true) (n : Nat) (hn : (n : Int) ≤ h.ttl) : makes (h.at n) p = true := by
  obtain ⟨tos, id, flags, ttl, proto, s0, s1, s2, s3, d0, d1, d2, d3, opts⟩ := h
  simp [makes, rightB, bad] at hm hn
  show makes ⟨tos, id, flags, ttl - n, proto, s0, s1, s2, s3, d0, d1, d2, d3, opts⟩ p = true
  simp [makes, rightB, bad]
  omega
theorem hop_packet {h : Hd} {p : List Int} (hh : h.small) (hm : makes h p = true) : (h.ttl ≠ 0 → hopB (packet h p) = packet h.dec p ∧ hopE (packet h p) = 0) ∧ (h.ttl = 0 → hopB (packet h p) = [] ∧ hopE (packet h p) = 55) := by
  have hf := packet_fault (p := p) hh hm
  have h1 := packet_head hm
  have h2 := packet_payload hm
  have h3 : at0 (packet h p) 8 = h.ttl := (show (headOf (packet h p)).ttl = h.ttl by rw [h1])
  rw [hopB, hopE, if_pos hf, if_pos hf, h1, h2, h3]
  refine ⟨fun h => ?_, fun h => ?_⟩
  · rw [if_neg h, if_neg h]; exact ⟨rfl, rfl⟩
  · rw [if_pos h, if_pos h]; exact ⟨rfl, rfl⟩

set_option maxRecDepth 100000 in
set_option maxHeartbeats 1000000 in
theorem hops_any (h : Hd) (hh : h.small) (A : Option Addr) (c : Nat) (p : List Int) (hp : Small p) (A0 : Option Addr) (c0 : Nat) (W : World) (ho : Src W A h.opts.length c (bv h.opts)) (hn : h.opts.length ≤ reachBytes) (hpl : Src W A0 p.length c0 (bv p)) (hn2 : p.length ≤ reachBytes) :
    Calls Try.prog 10 #[.agg (hv h A c), .slice A0 p.length c0] W fun e w' => e = .returned (.bool true) ∧ Below W.heap.size W w' := by
  have hnr : reachBytes = 140737488351232 := rfl
  rw [hnr] at hn hn2
  have SO : Hid (∀ w', Below W.heap.size W w' → Src w' A h.opts.length c (bv h.opts)) := Lib.hid (fun w' hb => ho.same fun ad had hne => hb.block _ (ho.lt had hne))
  have SP : Hid (∀ w', Below W.heap.size W w' → Src w' A0 p.length c0 (bv p)) := Lib.hid (fun w' hb => hpl.same fun ad had hne => hb.block _ (hpl.lt had hne))
  have MK : Hid (∀ w', Below W.heap.size W w' → Calls Try.prog 12 #[.agg (hv h A c), .slice A0 p.length c0] w' (MakeMade h p w')) := Lib.hid (fun w' hb => make_any h hh A c p hp A0 c0 w' (SO.out w' hb) (SP.out w' hb) (by omega) (by omega))
  have HC : Hid (∀ w', Below (W.alloc (.cells (hv h A c) 26)).heap.size (W.alloc (.cells (hv h A c) 26)) w' → w'.heap[W.heap.size]? = some (.cells (hv h A c) 26)) := Lib.hid (fun w' hb => (hb.block _ (by simp)).trans (heap_alloc_at W _))
  have BX : Hid (Below W.heap.size W (W.alloc (.cells (hv h A c) 26))) := Lib.hid ((Below.refl _ _).alloc (Nat.le_refl _) _)
  have hzX : W.heap.size < (W.alloc (.cells (hv h A c) 26)).heap.size := by simp
  have HSZ : Hid ((hv h A c).size = 14) := Lib.hid rfl
  clear ho hpl SO
  have HHS := Lib.hid hh
  have HPS := Lib.hid hp
  clear hh hp
  have HTT : Hid ((hv h A c)[3]? = some (.int .i64 h.ttl)) := Lib.hid rfl
  obtain ⟨H, hH⟩ : ∃ H, hv h A c = H := ⟨_, rfl⟩
  rw [hH] at MK HC BX hzX HSZ HTT ⊢
  clear hH
  go_enter Try.func10, Try.ntmps10
  go_wp2_with fail
  generalize hwA : W.alloc (.cells H 26) = wA at *
  clear hwA
  refine (alive_any wA).mono ?_
  rintro e w0 ⟨rfl, hb0⟩
  have hs0 := hb0.size
  have HB0 : Hid (Below wA.heap.size wA w0) := Lib.hid hb0
  clear hb0
  have BLK := Lib.hid (HC.out w0 HB0.out)
  have BW0 : Hid (Below W.heap.size W w0) := Lib.hid (BX.out.trans (HB0.out.mono BX.out.size))
  have k3 := (cell_of_block BLK.out 3).trans HTT.out
  by_cases hp1 : 100 < (p.length : Int)
  · go_wp2_with fail
    go_ret
    exact ⟨rfl, BW0.out⟩
  · by_cases hp2 : 40 < h.ttl
    · go_wp2_with fail
      go_ret
      exact ⟨rfl, BW0.out⟩
    · go_upto_region 5 with fail
      clear k3
      go_wp2_with (refine wpList_load_block rfl 26 (.tmp 2) rfl W.heap.size rfl H 26 (0, 0) BLK.out _ Try.underlying26 rfl (by rw [HSZ.out]; kernel_rfl) ?_)
      go_wp2_with fail
      refine (MK.out _ BW0.out).mono ?_
      rintro e w1 ⟨A1, c1, rfl, ho1, hb1⟩
      have BA1 : Hid (Below wA.heap.size wA w1) := Lib.hid (HB0.out.trans (hb1.mono hs0))
      have BW1 : Hid (Below W.heap.size W w1) := Lib.hid (BX.out.trans (BA1.out.mono BX.out.size))
      cases hm : makes h p
      · simp only [Bool.false_eq_true, if_false]
        clear ho1 hb1 hm MK
        go_wp2_with fail
        go_ret
        exact ⟨rfl, BW1.out⟩
      · rw [hm] at ho1
        simp only [if_true] at ho1 ⊢
        have HM := Lib.hid hm
        obtain ⟨n, hn0⟩ : ∃ n, 20 + h.opts.length + p.length = n := ⟨_, rfl⟩
        have HL : Hid (∀ j, (packet (h.at j) p).length = n) := Lib.hid (fun j => by rw [packet_length]; exact hn0)
        have hl0 : (packet h p).length = n := by rw [packet_length]; exact hn0
        obtain ⟨hr, hl⟩ := makes_bd hm
        have hn1500 : n ≤ 1500 := by omega
        have htt := (right_bd hr).2.1
        have hbase := own_base ho1 BW0.out.size
        rw [hl0] at hbase ⊢
        have HO1 := Lib.hid hbase
        clear ho1 hb1 hm MK hr hl hl0 hbase
        have HHOP : Hid (∀ (j : Nat) A c w, (j : Int) ≤ h.ttl → w.ownsRow W.heap.size 5 1 (.slice A n c) n (bv (packet (h.at j) p)) → Calls Try.prog 19 #[.slice A n c] w (HopMade (packet (h.at j) p) w)) := Lib.hid (fun j A c w hj ho => by
          have := hop_any (packet (h.at j) p) (packet_small (HHS.out.at j) HPS.out (at_makes HM.out j hj)) (by rw [HL.out]; omega) A c w (by rw [HL.out]; exact Src.of_own ho)
          rw [HL.out] at this
          exact this)
        have HPK : Hid (∀ (j : Nat), (j : Int) ≤ h.ttl → (h.ttl - j ≠ 0 → hopB (packet (h.at j) p) = packet (h.at (j + 1)) p ∧ hopE (packet (h.at j) p) = 0) ∧ (h.ttl - j = 0 → hopB (packet (h.at j) p) = [] ∧ hopE (packet (h.at j) p) = 55)) := Lib.hid (fun j hj => by
          have := hop_packet (HHS.out.at j) (at_makes HM.out j hj)
          rw [at_dec] at this
          exact this)
        go_upto_region 9 with fail
        go_loopg [5, 7] h.ttl.toNat (fun k v i wr => ∃ j : Nat, j + k = h.ttl.toNat ∧ i = .int .i64 j ∧ (∃ A c, v = .slice A n c ∧ wr.ownsRow W.heap.size 5 1 (.slice A n c) n (bv (packet (h.at j) p))) ∧ Below wA.heap.size wA wr)
        case atStart => exact ⟨0, Nat.zero_add _, rfl, ⟨A1, c1, rfl, by rw [at_zero]; exact HO1.out⟩, BA1.out⟩
        case round =>
          obtain ⟨j, hj, rfl, ⟨A2, c2, rfl, ho2⟩, hb2⟩ := hrel
          have HO2 := Lib.hid ho2
          have HB2 := Lib.hid hb2
          clear ho2 hb2
          have BW2 : Hid (Below W.heap.size W wr) := Lib.hid (BX.out.trans (HB2.out.mono BX.out.size))
          have k3 := (cell_of_block (HC.out wr HB2.out) 3).trans HTT.out
          obtain ⟨q1, q2⟩ := HPK.out j (by omega)
          by_cases hlt : (j : Int) < h.ttl
          · go_wp2_with fail
            obtain ⟨q3, q4⟩ := q1 (by omega)
            refine (HHOP.out j A2 c2 wr (by omega) HO2.out).mono ?_
            rintro e w3 ⟨A3, c3, rfl, ho3, hb3⟩
            rw [q3, HL.out] at ho3
            rw [q3, q4, HL.out]
            have HO3 := Lib.hid (own_base ho3 BW2.out.size)
            have HB3 : Hid (Below wA.heap.size wA w3) := Lib.hid (HB2.out.trans (hb3.mono HB2.out.size))
            clear ho3 hb3 q1 q2 q3 q4
            go_wp2_with fail
            go_roundg (gk - 1)
            case measure => omega
            case rel => exact ⟨j + 1, by omega, by go_num, ⟨A3, c3, rfl, HO3.out⟩, HB3.out⟩
          · have hj0 : h.ttl = j := by omega
            obtain ⟨q3, q4⟩ := q2 (by omega)
            clear q1 q2
            have hmk := at_makes HM.out j (by omega)
            have hpr := packet_read (HHS.out.at j) hmk
            have hpf := packet_fault (p := p) (HHS.out.at j) hmk
            have RD := Lib.hid (read_any (packet (h.at j) p) (packet_small (HHS.out.at j) HPS.out hmk) (by rw [HL.out]; omega) A2 c2 wr (by rw [HL.out]; exact Src.of_own HO2.out))
            rw [HL.out] at RD
            have HOP := Lib.hid (fun w' h1 => HHOP.out j A2 c2 w' (by omega) h1)
            have hK : (h.at j).ttl = 0 := by show h.ttl - j = 0; omega
            have hKo : Hid ((h.at j).opts.length = h.opts.length) := Lib.hid rfl
            clear hmk HPK HM HHOP hj0 htt
            go_wp2_with fail
            refine RD.out.mono ?_
            rintro e w3 ⟨A3, c3, A4, c4, rfl, ho3, ho4, hb3⟩
            rw [hpr.1] at ho3
            rw [hpr.2] at ho4
            rw [hpr.1, hpr.2, hpf]
            have HQ := Lib.hid (And.intro q3 q4)
            have HB3 : Hid (Below wA.heap.size wA w3) := Lib.hid (HB2.out.trans (hb3.mono HB2.out.size))
            have S4 := Lib.hid (Src.of_own ho4)
            have HO3 := Lib.hid (own_same HO2.out fun k e => hb3.block k (HO2.out.lt k e).2)
            clear ho3 ho4 hb3 hpr hpf q3 q4 RD
            generalize packet (h.at j) p = PK at *
            generalize h.at j = K at *
            simp only [hv, hK]
            have BL : Hid (Below w3.heap.size w3 (w3.alloc (.cells #[.int .i64 K.tos, .int .i64 K.id, .int .i64 K.flags, .int .i64 0, .int .i64 K.proto, .int .u8 K.s0, .int .u8 K.s1, .int .u8 K.s2, .int .u8 K.s3, .int .u8 K.d0, .int .u8 K.d1, .int .u8 K.d2, .int .u8 K.d3, .slice A3 K.opts.length c3] 26))) := Lib.hid ((Below.refl _ _).alloc (Nat.le_refl _) _)
            have BK := Lib.hid (heap_alloc_at w3 (.cells #[.int .i64 K.tos, .int .i64 K.id, .int .i64 K.flags, .int .i64 0, .int .i64 K.proto, .int .u8 K.s0, .int .u8 K.s1, .int .u8 K.s2, .int .u8 K.s3, .int .u8 K.d0, .int .u8 K.d1, .int .u8 K.d2, .int .u8 K.d3, .slice A3 K.opts.length c3] 26))
            go_upto_region 16 with fail
            generalize w3.alloc (.cells _ 26) = w4 at *
            go_wp2_with fail
            refine (HOP.out w4 (own_same HO3.out fun k e => BL.out.block k (HO3.out.lt k e).2)).mono ?_
            rintro e w5 ⟨A5, c5, rfl, -, hb5⟩
            rw [HQ.out.1, HQ.out.2]
            have HB5 : Hid (Below w3.heap.size w3 w5) := Lib.hid (BL.out.trans (hb5.mono BL.out.size))
            have BW5 : Hid (Below W.heap.size W w5) := Lib.hid (BX.out.trans ((HB3.out.trans (HB5.out.mono HB3.out.size)).mono BX.out.size))
            have BK5 := Lib.hid ((hb5.block w3.heap.size (block_lt BK.out)).trans BK.out)
            clear hb5
            have kk3 := (cell_of_block BK5.out 3)
            simp only [List.getElem?_toArray] at kk3
            have T1 := str_run p A4 c4 w5 (S4.out.same fun ad had hne => HB5.out.block _ (S4.out.lt had hne))
            have T2 := str_run p A0 c0 w5 (SP.out w5 BW5.out)
            go_wp2_with fail
            go_ret
            exact ⟨rfl, BW5.out⟩
end Go.Proofs.Ytjembpchgemhnaa.Head
