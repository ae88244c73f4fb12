/- The walk of the law HeadBack of floodgate's head layer. There are no conditions. -/
import Derived.Test.YtjembpchgemhnaaFgHeadOpen
import Derived.Test.YtjembpchgemhnaaFgHeadPure3
import Derived.Test.YtjembpchgemhnaaFgOwn2
set_option linter.unusedVariables false
set_option linter.unusedSimpArgs false
namespace Go.Proofs.Ytjembpchgemhnaa.Head
open Go.RowKit Go.Proofs.Ytjembpchgemhnaa.Fg Go.ChangeShapes Go.WideShapes Go.ChangeAt

set_option maxRecDepth 100000 in
set_option maxHeartbeats 1000000 in
theorem back_any (h : Hd) (hh : h.small) (A : Option Addr) (c : Nat) (p : List Int) (hp : Small p) (A0 : Option Addr) (c0 : Nat) (l : List Int) (hl : Small l) (A9 : Option Addr) (c9 : Nat) (W : World)
    (ho : Src W A h.opts.length c (bv h.opts)) (hn : h.opts.length ≤ reachBytes) (hpl : Src W A0 p.length c0 (bv p)) (hn2 : p.length ≤ reachBytes) (hls : Src W A9 l.length c9 (bv l)) (hn3 : l.length ≤ reachBytes) :
    Calls Try.prog 6 #[.agg (hv h A c), .slice A0 p.length c0, .slice A9 l.length c9] W fun e w' => e = .returned (.bool true) ∧ Below W.heap.size W w' := by
  have hnr : reachBytes = 140737488351232 := rfl
  rw [hnr] at hn hn2 hn3
  have SO : Hid (∀ w', Below W.heap.size W w' → Src w' A h.opts.length c (bv h.opts)) := Lib.hid (fun w' hb => ho.same fun ad had hne => hb.block _ (ho.lt had hne))
  have SP : Hid (∀ w', Below W.heap.size W w' → Src w' A0 p.length c0 (bv p)) := Lib.hid (fun w' hb => hpl.same fun ad had hne => hb.block _ (hpl.lt had hne))
  have SL : Hid (∀ w', Below W.heap.size W w' → Src w' A9 l.length c9 (bv l)) := Lib.hid (fun w' hb => hls.same fun ad had hne => hb.block _ (hls.lt had hne))
  have MK : Hid (∀ w', Below W.heap.size W w' → Calls Try.prog 12 #[.agg (hv h A c), .slice A0 p.length c0] w' (MakeMade h p w')) := Lib.hid (fun w' hb => make_any h hh A c p hp A0 c0 w' (SO.out w' hb) (SP.out w' hb) (by omega) (by omega))
  have HC : Hid (∀ w', Below (W.alloc (.cells (hv h A c) 26)).heap.size (W.alloc (.cells (hv h A c) 26)) w' → w'.heap[W.heap.size]? = some (.cells (hv h A c) 26)) := Lib.hid (fun w' hb => (hb.block _ (by simp)).trans (heap_alloc_at W _))
  have BX : Hid (Below W.heap.size W (W.alloc (.cells (hv h A c) 26))) := Lib.hid ((Below.refl _ _).alloc (Nat.le_refl _) _)
  have SAME : Hid (∀ A2 c2 w', Below W.heap.size W w' → Src w' A2 h.opts.length c2 (bv h.opts) → Calls Try.prog 17 #[.agg (hv h A c), .agg (hv h A2 c2)] w' fun e w2 => e = .returned (.bool true) ∧ Below w'.heap.size w' w2) := Lib.hid (fun A2 c2 w' hb hs => same_any h A A2 c c2 w' (SO.out w' hb) hs)
  have hzX : W.heap.size < (W.alloc (.cells (hv h A c) 26)).heap.size := by simp
  have HSZ : Hid ((hv h A c).size = 14) := Lib.hid rfl
  clear ho hpl hls
  have HHS := Lib.hid hh
  have HPS := Lib.hid hp
  have HLS := Lib.hid hl
  clear hh hp hl
  have HTT : Hid ((hv h A c)[13]? = some (.slice A h.opts.length c)) := Lib.hid rfl
  obtain ⟨H, hH⟩ : ∃ H, hv h A c = H := ⟨_, rfl⟩
  rw [hH] at MK HC BX hzX HSZ HTT SAME ⊢
  clear hH
  go_enter Try.func6, Try.ntmps6
  go_wp2_with fail
  generalize hwA : W.alloc (.cells H 26) = wA at *
  clear hwA
  refine (alive_any wA).mono ?_
  rintro e w0 ⟨rfl, hb0⟩
  have hs0 := hb0.size
  have HB0 : Hid (Below wA.heap.size wA w0) := Lib.hid hb0
  clear hb0
  have BLK := Lib.hid (HC.out w0 HB0.out)
  have BW0 : Hid (Below W.heap.size W w0) := Lib.hid (BX.out.trans (HB0.out.mono BX.out.size))
  have k3 := (cell_of_block BLK.out 13).trans HTT.out
  by_cases hp1 : 3000 < (p.length : Int)
  · go_wp2_with fail
    go_ret
    exact ⟨rfl, BW0.out⟩
  · by_cases hp2 : 3000 < (h.opts.length : Int)
    · go_wp2_with fail
      go_ret
      exact ⟨rfl, BW0.out⟩
    · by_cases hp3 : 3000 < (l.length : Int)
      · go_wp2_with fail
        go_ret
        exact ⟨rfl, BW0.out⟩
      · go_upto_region 5 with fail
        clear k3
        go_wp2_with (refine wpList_load_block rfl 26 (.tmp 3) rfl W.heap.size rfl H 26 (0, 0) BLK.out _ Try.underlying26 rfl (by rw [HSZ.out]; kernel_rfl) ?_)
        go_wp2_with fail
        refine (MK.out _ BW0.out).mono ?_
        rintro e w1 ⟨A1, c1, rfl, ho1, hb1⟩
        have BA1 : Hid (Below wA.heap.size wA w1) := Lib.hid (HB0.out.trans (hb1.mono hs0))
        have BW1 : Hid (Below W.heap.size W w1) := Lib.hid (BX.out.trans (BA1.out.mono BX.out.size))
        have HO1 := Lib.hid (own_base ho1 BW0.out.size)
        clear ho1 hb1 MK
        obtain ⟨n1, hn1⟩ : ∃ n, (if makes h p then (packet h p).length else 0) = n := ⟨_, rfl⟩
        obtain ⟨f1, hf1⟩ : ∃ n : Int, (if makes h p then (0 : Int) else 55) = n := ⟨_, rfl⟩
        rw [hn1] at HO1
        rw [hn1, hf1]
        go_upto_if 41 with fail
        go_cut [] (fun wx => Below wA.heap.size wA wx)
        case first =>
          cases hm : makes h p
          · have hf2 : (f1 == 0) = false := by rw [← hf1, hm]; rfl
            clear hm hf1 hn1 HO1
            go_wp2_with fail
            go_meet
            exact BA1.out
          · have hf2 : (f1 == 0) = true := by rw [← hf1, hm]; rfl
            have hn2 : (packet h p).length = n1 := by rw [← hn1, hm]; rfl
            rw [hm] at HO1
            simp only [if_true] at HO1
            clear hf1 hn1
            have hpr := packet_read HHS.out hm
            have hpf := packet_fault (p := p) HHS.out hm
            have hlen : (packet h p).length ≤ 1500 := by rw [packet_length]; exact (makes_bd hm).2
            rw [hn2] at hlen
            have RD := Lib.hid (read_any (packet h p) (packet_small HHS.out HPS.out hm) (by rw [hn2]; omega) A1 c1 w1 (by rw [hn2]; exact Src.of_own HO1.out))
            rw [hn2] at RD
            generalize packet h p = L at *
            go_wp2_with fail
            refine RD.out.mono ?_
            rintro e w3 ⟨A3, c3, A4, c4, rfl, ho3, ho4, hb3⟩
            rw [hpr.1] at ho3
            rw [hpr.2] at ho4
            rw [hpr.1, hpr.2, hpf]
            have B3 : Hid (Below wA.heap.size wA w3) := Lib.hid (BA1.out.trans (hb3.mono BA1.out.size))
            have S3 := Lib.hid (Src.of_own ho3)
            have S4 := Lib.hid (Src.of_own ho4)
            clear ho3 ho4 hb3 hpr hpf RD
            have BL : Hid (Below w3.heap.size w3 (w3.alloc (.cells (hv h A3 c3) 26))) := Lib.hid ((Below.refl _ _).alloc (Nat.le_refl _) _)
            have BK := Lib.hid (heap_alloc_at w3 (.cells (hv h A3 c3) 26))
            have HSZ3 : Hid ((hv h A3 c3).size = 14) := Lib.hid rfl
            have SM := Lib.hid (fun w' hb hs => SAME.out A3 c3 w' hb hs)
            obtain ⟨H3, hH3⟩ : ∃ H3, hv h A3 c3 = H3 := ⟨_, rfl⟩
            rw [hH3] at BL BK HSZ3 SM
            simp only [hv]
            simp only [hv] at hH3
            have HH3 := Lib.hid hH3
            clear hH3
            go_upto_region 8 with fail
            rw [HH3.out]
            generalize w3.alloc (.cells H3 26) = w4 at *
            clear HH3
            have BA4 : Hid (Below wA.heap.size wA w4) := Lib.hid (B3.out.trans (BL.out.mono B3.out.size))
            have BLK4 := Lib.hid (HC.out w4 BA4.out)
            go_wp2_with (first
              | refine wpList_load_block_g (by simp [Region.wanted, yielded]) 26 (.tmp 3) rfl W.heap.size rfl H 26 (0, 0) BLK4.out _ Try.underlying26 rfl (by rw [HSZ.out]; kernel_rfl) ?_
              | refine wpList_load_block_g (by simp [Region.wanted, yielded, Act.put]) 26 (.tmp 9) rfl w3.heap.size rfl H3 26 (0, 0) BK.out _ Try.underlying26 rfl (by rw [HSZ3.out]; kernel_rfl) ?_)
            refine (SM.out w4 (BX.out.trans (BA4.out.mono BX.out.size)) (S3.out.same fun ad had hne => BL.out.block _ (S3.out.lt had hne))).mono ?_
            rintro e w5 ⟨rfl, hb5⟩
            have BA5 : Hid (Below wA.heap.size wA w5) := Lib.hid (BA4.out.trans (hb5.mono BA4.out.size))
            have B35 : Hid (Below w3.heap.size w3 w5) := Lib.hid (BL.out.trans (hb5.mono BL.out.size))
            clear hb5
            have T1 := str_run p A4 c4 w5 (S4.out.same fun ad had hne => B35.out.block _ (S4.out.lt had hne))
            have T2 := str_run p A0 c0 w5 (SP.out w5 (BX.out.trans (BA5.out.mono BX.out.size)))
            have hlz : ¬ (1500 < (n1 : Int)) := by omega
            go_wp2_with fail
            go_meet
            exact BA5.out
        case rest =>
          have BAc : Hid (Below wA.heap.size wA wc) := Lib.hid hcut
          have BWc : Hid (Below W.heap.size W wc) := Lib.hid (BX.out.trans (hcut.mono BX.out.size))
          clear hcut HO1 hn1 hf1 BA1 BW1 SAME
          have RD := Lib.hid (read_any l HLS.out (by omega) A9 c9 wc (SL.out wc BWc.out))
          go_wp2_with fail
          refine RD.out.mono ?_
          rintro e w3 ⟨A3, c3, A4, c4, rfl, ho3, ho4, hb3⟩
          have B3 : Hid (Below W.heap.size W w3) := Lib.hid (BWc.out.trans (hb3.mono BWc.out.size))
          clear RD hb3
          by_cases hf : fault l = 0
          · have e1 : readHd l = headOf l := if_pos hf
            have e2 : readPl l = l.drop (hlen l) := if_pos hf
            rw [e1] at ho3
            rw [e2] at ho4
            rw [e1, e2, hf]
            obtain ⟨y1, y2, y3⟩ := back HLS.out hf
            have HM := Lib.hid (head_right HLS.out hf)
            have HS := Lib.hid (head_small HLS.out)
            have HP := Lib.hid (HLS.out.drop (hlen l))
            have hol : (headOf l).opts.length ≤ 1000 := by
              rw [(read_eq HLS.out hf).2]; have := (fault_zero hf).2.2.2.2; omega
            have hql : (l.drop (hlen l)).length ≤ 3000 := by rw [List.length_drop]; omega
            have h20 : 20 ≤ l.length := (fault_zero hf).1
            have S3 : Hid (∀ w', Below w3.heap.size w3 w' → Src w' A3 (headOf l).opts.length c3 (bv (headOf l).opts)) := Lib.hid (fun w' hb => (Src.of_own ho3).same fun ad had hne => hb.block _ ((Src.of_own ho3).lt had hne))
            have S4 : Hid (∀ w', Below w3.heap.size w3 w' → Src w' A4 (l.drop (hlen l)).length c4 (bv (l.drop (hlen l)))) := Lib.hid (fun w' hb => (Src.of_own ho4).same fun ad had hne => hb.block _ ((Src.of_own ho4).lt had hne))
            clear ho3 ho4 e1 e2 hf
            generalize headOf l = K at *
            generalize l.drop (hlen l) = q at *
            have MK : Hid (∀ w', Below w3.heap.size w3 w' → Calls Try.prog 12 #[.agg (hv K A3 c3), .slice A4 q.length c4] w' (MakeMade K q w')) := Lib.hid (fun w' hb => make_any K HS.out A3 c3 q HP.out A4 c4 w' (S3.out w' hb) (S4.out w' hb) (by omega) (by omega))
            have BL : Hid (Below w3.heap.size w3 (w3.alloc (.cells (hv K A3 c3) 26))) := Lib.hid ((Below.refl _ _).alloc (Nat.le_refl _) _)
            have BK := Lib.hid (heap_alloc_at w3 (.cells (hv K A3 c3) 26))
            have HSZ3 : Hid ((hv K A3 c3).size = 14) := Lib.hid rfl
            obtain ⟨H3, hH3⟩ : ∃ H3, hv K A3 c3 = H3 := ⟨_, rfl⟩
            rw [hH3] at BL BK HSZ3 MK
            simp only [hv] at hH3 ⊢
            have HH3 := Lib.hid hH3
            clear hH3
            go_upto_region 13 with fail
            rw [HH3.out]
            generalize w3.alloc (.cells H3 26) = w4 at *
            clear HH3
            go_wp2_with (refine wpList_load_block rfl 26 (.tmp 12) rfl w3.heap.size rfl H3 26 (0, 0) BK.out _ Try.underlying26 rfl (by rw [HSZ3.out]; kernel_rfl) ?_)
            go_wp2_with fail
            refine (MK.out w4 BL.out).mono ?_
            rintro e w5 ⟨A5, c5, rfl, ho5, hb5⟩
            rw [HM.out] at ho5
            simp only [if_true] at ho5
            rw [HM.out]
            simp only [if_true]
            rw [y1] at ho5 ⊢
            have B5 : Hid (Below W.heap.size W w5) := Lib.hid (B3.out.trans ((BL.out.trans (hb5.mono BL.out.size)).mono B3.out.size))
            obtain ⟨g, c', e1, hr1⟩ := row_of_own ho5 (by omega)
            injection e1 with e1 _ e2
            subst e1 e2
            have HR := Lib.hid hr1
            generalize packet K q = Y at *
            have SB := Lib.hid (SL.out w5 B5.out)
            have HY := Lib.hid y2
            have HZ := Lib.hid y3
            clear hb5 ho5 hr1 MK y1 y2 y3
            obtain ⟨ad, rfl⟩ : ∃ ad, A9 = some ad := by
              cases A9 with
              | none => have := (SB.out.nil rfl).1; exfalso; omega
              | some ad => exact ⟨ad, rfl⟩
            have CL : Hid (∀ j, j < l.length → w5.cell? (ad.add j) = some (.int .u8 (at0 l j))) := Lib.hid (fun j hj => src_cells SB.out hj)
            have CY : Hid (∀ j, j < l.length → w5.cell? ⟨g, j, none⟩ = some (.int .u8 (at0 Y j))) := Lib.hid (fun j hj => by
              have hj' : j < Y.length := by rw [HR.out.len]; exact hj
              rw [HR.out.cell j hj', at0_eq hj'])
            have hc9 := SB.out.cap
            have hc5 := HR.out.src.cap
            go_wp2_with fail
            go_loopg [101] l.length (fun k i wr => ∃ j : Nat, j + k = l.length ∧ i = .int .i64 j ∧ ∃ q, wr = w5.drewN q)
            case atStart => exact ⟨0, Nat.zero_add _, rfl, 0, rfl⟩
            case round =>
              obtain ⟨j, hj, rfl, q, rfl⟩ := hrel
              by_cases hlt : j < l.length
              · have cl := CL.out j hlt
                have cy := CY.out j hlt
                have i1 : (0 : Int) ≤ (j : Int) := by omega
                have i2 : (j : Int) < (l.length : Int) := by omega
                by_cases h10 : j = 10
                · subst h10
                  go_wp2_with fail
                  go_quiet (fail)
                  go_wp2_with fail
                  go_roundg (gk - 1)
                  case measure => omega
                  case rel => exact ⟨10 + 1, by omega, by go_num, _, rfl⟩
                · by_cases h11 : j = 11
                  · subst h11
                    go_wp2_with fail
                    go_quiet (fail)
                    go_wp2_with fail
                    go_roundg (gk - 1)
                    case measure => omega
                    case rel => exact ⟨11 + 1, by omega, by go_num, _, rfl⟩
                  · rw [HY.out j h10 h11] at cy
                    have g10 : ((j : Int) != 10) = true := by rw [bne_iff_ne]; omega
                    have g11 : ((j : Int) != 11) = true := by rw [bne_iff_ne]; omega
                    clear h10 h11
                    generalize at0 l j = x at *
                    go_wp2_with fail
                    go_quiet (fail)
                    go_wp2_with fail
                    go_roundg (gk - 1)
                    case measure => omega
                    case rel => exact ⟨j + 1, by omega, by go_num, _, rfl⟩
              · have a10 : w5.cell? ⟨ad.block, ad.off + 10, none⟩ = _ := CL.out 10 (by omega)
                have a11 : w5.cell? ⟨ad.block, ad.off + 11, none⟩ = _ := CL.out 11 (by omega)
                have b10 := CY.out 10 (by omega)
                have b11 := CY.out 11 (by omega)
                have i1 : (10 : Int) < (l.length : Int) := by omega
                have i2 : (11 : Int) < (l.length : Int) := by omega
                rcases HZ.out with ⟨z1, z2⟩ | ⟨z1, z2, z3, z4⟩
                · rw [z1] at b10
                  rw [z2] at b11
                  generalize at0 l 10 = x at *
                  generalize at0 l 11 = y at *
                  clear z1 z2 HY HZ CL CY
                  go_wp2_with fail
                  go_quiet (fail)
                  go_wp2_with fail
                  go_ret
                  exact ⟨rfl, below_drewN (below_drewN B5.out _) _⟩
                · rw [z1] at a10
                  rw [z2] at a11
                  rw [z3] at b10
                  rw [z4] at b11
                  clear z1 z2 z3 z4 HY HZ CL CY
                  go_wp2_with fail
                  go_quiet (fail)
                  go_wp2_with fail
                  go_ret
                  exact ⟨rfl, below_drewN (below_drewN B5.out _) _⟩
          · have e1 : readHd l = noHd := if_neg hf
            have e2 : readPl l = [] := if_neg hf
            have hf2 : (fault l != 0) = true := by rw [bne_iff_ne]; exact hf
            rw [e1] at ho3
            rw [e1, e2]
            clear ho4 e1 e2 hf
            generalize fault l = f at *
            have S3 := Lib.hid (Src.of_own ho3)
            clear ho3
            have BL : Hid (Below w3.heap.size w3 (w3.alloc (.cells (hv noHd A3 c3) 26))) := Lib.hid ((Below.refl _ _).alloc (Nat.le_refl _) _)
            have BK := Lib.hid (heap_alloc_at w3 (.cells (hv noHd A3 c3) 26))
            have HSZ3 : Hid ((hv noHd A3 c3).size = 14) := Lib.hid rfl
            have SM : Hid (∀ w', Calls Try.prog 17 #[.agg (hv noHd A3 c3), .agg (hv noHd none 0)] w' fun e w2 => e = .returned (.bool true) ∧ Below w'.heap.size w' w2) := Lib.hid (fun w' => same_any noHd A3 none c3 0 w' (S3.out.same fun ad had hne => absurd rfl hne) ⟨fun _ => ⟨rfl, rfl⟩, Nat.le_refl _, by simp [maxLen], fun _ h => by cases h⟩)
            obtain ⟨H3, hH3⟩ : ∃ H3, hv noHd A3 c3 = H3 := ⟨_, rfl⟩
            rw [hH3] at BL BK HSZ3 SM
            simp only [hv, noHd] at hH3 SM ⊢
            have HH3 := Lib.hid hH3
            clear hH3
            go_upto_if 75 with fail
            have hH3 := HH3.out
            simp only [List.length_nil] at hH3 ⊢
            rw [hH3]
            generalize w3.alloc (.cells H3 26) = w4 at *
            clear HH3 hH3
            go_wp2_with (refine wpList_load_block_g (by simp [Region.wanted, yielded, Act.put]) 26 (.tmp 12) rfl w3.heap.size rfl H3 26 (0, 0) BK.out _ Try.underlying26 rfl (by rw [HSZ3.out]; kernel_rfl) ?_)
            refine (SM.out w4).mono ?_
            rintro e w5 ⟨rfl, hb5⟩
            have HB5 := Lib.hid hb5
            clear hb5
            go_wp2_with fail
            go_ret
            exact ⟨rfl, B3.out.trans ((BL.out.trans (HB5.out.mono BL.out.size)).mono B3.out.size)⟩
end Go.Proofs.Ytjembpchgemhnaa.Head
