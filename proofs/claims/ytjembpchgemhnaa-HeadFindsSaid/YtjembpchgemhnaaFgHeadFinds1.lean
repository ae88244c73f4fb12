/- The walk of the law HeadFinds of floodgate's head layer. There are no conditions. -/
import Derived.Test.YtjembpchgemhnaaFgHeadOpen
import Derived.Test.YtjembpchgemhnaaFgHeadPure3
set_option linter.unusedVariables false
set_option linter.unusedSimpArgs false
namespace Go.Proofs.Ytjembpchgemhnaa.Head
open Go.RowKit Go.Proofs.Ytjembpchgemhnaa.Fg Go.ChangeShapes Go.WideShapes Go.ChangeAt

set_option maxRecDepth 100000 in
set_option maxHeartbeats 1000000 in
theorem finds_any (h : Hd) (hh : h.small) (A : Option Addr) (c : Nat) (z : Int) (hz : (Lit.int IntKind.i64 z).wf = true) (x : Int) (hx : (Lit.int IntKind.u8 x).wf = true) (W : World) (ho : Src W A h.opts.length c (bv h.opts)) (hn : h.opts.length ≤ reachBytes) :
    Calls Try.prog 7 #[.agg (hv h A c), .int .i64 z, .int .u8 x] W fun e w' => e = .returned (.bool true) ∧ Below W.heap.size W w' := by
  have hzb := bounds_i64 hz
  have hxb : 0 ≤ x ∧ x ≤ 255 := by
    have hmin : IntKind.u8.min = 0 := rfl
    have hmax : IntKind.u8.max = 255 := rfl
    simpa only [Lit.wf, Bool.and_eq_true, decide_eq_true_eq, hmin, hmax] using hx
  have hnr : reachBytes = 140737488351232 := rfl
  rw [hnr] at hn
  have SO : Hid (∀ w', Below W.heap.size W w' → Src w' A h.opts.length c (bv h.opts)) := Lib.hid (fun w' hb => ho.same fun ad had hne => hb.block _ (ho.lt had hne))
  have hdat : Small [100, 97, 116, 97] := by unfold Small; simp
  have MK : Hid (∀ c' A' w', Below W.heap.size W w' → Src w' A' 4 c' (bv [100, 97, 116, 97]) → Calls Try.prog 12 #[.agg (hv h A c), .slice A' 4 c'] w' (MakeMade h [100, 97, 116, 97] w')) := Lib.hid (fun c' A' w' hb hs => make_any h hh A c [100, 97, 116, 97] hdat A' c' w' (SO.out w' hb) hs (by omega) (by decide))
  have HC : Hid (∀ w', Below (W.alloc (.cells (hv h A c) 26)).heap.size (W.alloc (.cells (hv h A c) 26)) w' → w'.heap[W.heap.size]? = some (.cells (hv h A c) 26)) := Lib.hid (fun w' hb => (hb.block _ (by simp)).trans (heap_alloc_at W _))
  have BX : Hid (Below W.heap.size W (W.alloc (.cells (hv h A c) 26))) := Lib.hid ((Below.refl _ _).alloc (Nat.le_refl _) _)
  have hzX : W.heap.size < (W.alloc (.cells (hv h A c) 26)).heap.size := by simp
  have HSZ : Hid ((hv h A c).size = 14) := Lib.hid rfl
  have kc := fun (w : World) (C : Array Value) (n c : Nat) => Lib.run_convert_bytes_const (P := Try.prog) w 24 5 C n c Try.underlying24 Try.underlying5
  clear ho hz hx
  have HHS := Lib.hid hh
  clear hh
  obtain ⟨H, hH⟩ : ∃ H, hv h A c = H := ⟨_, rfl⟩
  rw [hH] at MK HC BX hzX HSZ ⊢
  have HEQ := Lib.hid hH
  clear hH
  go_enter Try.func7, Try.ntmps7
  go_wp2_with fail
  generalize hwA : W.alloc (.cells H 26) = wA at *
  clear hwA
  refine (alive_any wA).mono ?_
  rintro e w0 ⟨rfl, hb0⟩
  have hs0 := hb0.size
  have HB0 : Hid (Below wA.heap.size wA w0) := Lib.hid hb0
  clear hb0
  have BLK := Lib.hid (HC.out w0 HB0.out)
  have BW0 : Hid (Below W.heap.size W w0) := Lib.hid (BX.out.trans (HB0.out.mono BX.out.size))
  go_wp2_with (refine wpList_load_block rfl 26 (.tmp 3) rfl W.heap.size rfl H 26 (0, 0) BLK.out _ Try.underlying26 rfl (by rw [HSZ.out]; kernel_rfl) ?_)
  go_wp2_with fail
  refine (MK.out _ _ _ (BW0.out.alloc BW0.out.size _) (src_at0 rfl [100, 97, 116, 97] (4, 5) (by decide))).mono ?_
  rintro e w1 ⟨A1, c1, rfl, ho1, hb1⟩
  have BA1 : Hid (Below wA.heap.size wA w1) := Lib.hid ((HB0.out.alloc hs0 _).trans (hb1.mono (by simp; omega)))
  have BW1 : Hid (Below W.heap.size W w1) := Lib.hid (BX.out.trans (BA1.out.mono BX.out.size))
  cases hm : makes h [100, 97, 116, 97]
  · simp only [Bool.false_eq_true, if_false]
    clear ho1 hb1 hm MK kc
    go_wp2_with fail
    go_ret
    exact ⟨rfl, BW1.out⟩
  · rw [hm] at ho1
    simp only [if_true] at ho1 ⊢
    have HM := Lib.hid hm
    obtain ⟨n, hn0⟩ : ∃ n, (packet h [100, 97, 116, 97]).length = n := ⟨_, rfl⟩
    rw [hn0] at ho1
    rw [hn0]
    have hn24 : n = 24 + h.opts.length := by rw [← hn0, packet_length]; simp; omega
    obtain ⟨hr, hl⟩ := makes_bd hm
    have hn1500 : n ≤ 1500 := by simp at hl; omega
    have hn4 : 24 ≤ n := by omega
    obtain ⟨g, c', e1, hr1⟩ := row_of_own ho1 (by omega)
    injection e1 with e1 _ e2
    subst e1 e2
    have FND := Lib.hid (fun j c hj hc hne => @finds h [100, 97, 116, 97] HHS.out hdat hm j c hj hc hne)
    have LSM := Lib.hid (packet_small HHS.out hdat hm)
    generalize packet h [100, 97, 116, 97] = L at *
    have HR := Lib.hid hr1
    have HN := Lib.hid hn0
    have hcap := hr1.src.cap
    clear ho1 hb1 hm MK kc hr1 hn0 hl hr hn24
    have i1 : (4 : Int) ≤ (n : Int) := by omega
    by_cases hz1 : z < 0
    · go_wp2_with fail
      go_ret
      exact ⟨rfl, BW1.out⟩
    · by_cases hz2 : (n : Int) - 4 ≤ z
      · go_wp2_with fail
        go_ret
        exact ⟨rfl, BW1.out⟩
      · obtain ⟨j, rfl⟩ : ∃ j : Nat, z = j := ⟨z.toNat, by omega⟩
        have hjn : j < n := by omega
        have hjL : j < L.length := by rw [HN.out]; exact hjn
        have cj := HR.out.cell j hjL
        have fj := HR.out.free j
        rw [at0_eq hjL] at cj
        by_cases hq : at0 L j = x
        · have hq' : (at0 L j == x) = true := beq_iff_eq.2 hq
          clear hq
          go_wp2_with fail
          go_ret
          exact ⟨rfl, BW1.out⟩
        · have hq' : (at0 L j == x) = false := beq_eq_false_iff_ne.2 hq
          have HF := Lib.hid (FND.out j x hjL hxb hq)
          have R2 := Lib.hid (HR.out.store j x)
          have hgA := HR.out.base_le
          have B2 : Hid (Below wA.heap.size wA (w1.setCell ⟨g, j, none⟩ (.int .u8 x))) := Lib.hid (BA1.out.setCell (p := ⟨g, j, none⟩) (Nat.le_trans hs0 (Nat.le_trans (by simp) hgA.1)) _)
          have HSL := Lib.hid (LSM.out.set j x hxb)
          clear hq FND
          go_upto_region 7 with fail
          clear cj fj hq'
          generalize w1.setCell ⟨g, j, none⟩ (.int .u8 x) = w2 at *
          have hlen : (L.set j x).length = n := by rw [List.length_set, HN.out]
          have RD := Lib.hid (read_any (L.set j x) HSL.out (by rw [hlen]; omega) (some ⟨g, 0, none⟩) c1 w2 (by rw [hlen]; exact R2.out.src))
          rw [hlen] at RD
          clear hlen
          go_wp2_with fail
          refine RD.out.mono ?_
          rintro e w3 ⟨A3, c3, A4, c4, rfl, -, -, hb3⟩
          have B3 : Hid (Below wA.heap.size wA w3) := Lib.hid (B2.out.trans (hb3.mono B2.out.size))
          clear hb3 RD
          cases hf : decide (fault (L.set j x) = 0)
          · have hf' : (fault (L.set j x) != 0) = true := by rw [bne_iff_ne]; exact of_decide_eq_false hf
            simp only [hv]
            clear hf HF
            generalize fault (L.set j x) = f at *
            go_wp2_with fail
            go_ret
            exact ⟨rfl, (BX.out.trans (B3.out.mono BX.out.size)).alloc (BX.out.trans (B3.out.mono BX.out.size)).size _⟩
          · have hf0 := of_decide_eq_true hf
            obtain ⟨q0, q1, q2, q3, q4, q5, q6, q7⟩ := HF.out.resolve_left (fun h => h hf0)
            have hrd : readHd (L.set j x) = headOf (L.set j x) := if_pos hf0
            rw [hrd, hf0]
            simp only [hv]
            rw [q0, q1, q2, q3, q4, q5, q6, q7]
            clear q0 q1 q2 q3 q4 q5 q6 q7 hrd hf0 hf HF
            generalize headOf (L.set j x) = K0
            have blk3 := HC.out w3 B3.out
            have k5 := (cell_of_block blk3 5).trans (show H[5]? = some (.int .u8 h.s0) by rw [← HEQ.out]; rfl)
            have k6 := (cell_of_block blk3 6).trans (show H[6]? = some (.int .u8 h.s1) by rw [← HEQ.out]; rfl)
            have k7 := (cell_of_block blk3 7).trans (show H[7]? = some (.int .u8 h.s2) by rw [← HEQ.out]; rfl)
            have k8 := (cell_of_block blk3 8).trans (show H[8]? = some (.int .u8 h.s3) by rw [← HEQ.out]; rfl)
            have k9 := (cell_of_block blk3 9).trans (show H[9]? = some (.int .u8 h.d0) by rw [← HEQ.out]; rfl)
            have k10 := (cell_of_block blk3 10).trans (show H[10]? = some (.int .u8 h.d1) by rw [← HEQ.out]; rfl)
            have k11 := (cell_of_block blk3 11).trans (show H[11]? = some (.int .u8 h.d2) by rw [← HEQ.out]; rfl)
            have k12 := (cell_of_block blk3 12).trans (show H[12]? = some (.int .u8 h.d3) by rw [← HEQ.out]; rfl)
            have eqa : ∀ (a b c d : Int) (w : World), (Op.equalIn 10000 23 (.agg #[.int .u8 a, .int .u8 b, .int .u8 c, .int .u8 d]) (.agg #[.int .u8 a, .int .u8 b, .int .u8 c, .int .u8 d])).run Try.prog w = .ok true w := fun a b c d w => by
              obtain ⟨i0, hi, -⟩ := info_parts info_u8
              have := eq_bytes (P := Try.prog) 9998 Try.underlying23 Try.underlying5 hi (by kernel_rfl) (by kernel_rfl) [a, b, c, d] [a, b, c, d] rfl rfl w
              simpa [bv] using this
            have hlt := block_lt blk3
            clear blk3
            go_wp2_with fail
            go_ret
            exact ⟨rfl, (BX.out.trans (B3.out.mono BX.out.size)).alloc (BX.out.trans (B3.out.mono BX.out.size)).size _⟩
end Go.Proofs.Ytjembpchgemhnaa.Head
