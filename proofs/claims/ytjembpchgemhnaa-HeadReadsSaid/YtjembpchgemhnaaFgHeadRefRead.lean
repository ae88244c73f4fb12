/- Contract of the document's Read. Conditions: none beyond each lemma's own hypotheses. -/
import Derived.Test.YtjembpchgemhnaaFgHeadHop
import Derived.Test.YtjembpchgemhnaaFgOwn3
set_option linter.unusedVariables false
set_option linter.unusedSimpArgs false
namespace Go.Proofs.Ytjembpchgemhnaa.Head
open Go.RowKit Go.Proofs.Ytjembpchgemhnaa.Fg

set_option maxRecDepth 100000 in
set_option maxHeartbeats 8000000 in
theorem refread_any (l : List Int) (hb : Small l) (hn : l.length ≤ 100000) (A : Option Addr) (c : Nat) (w : World) (hs : Src w A l.length c (bv l)) :
    Calls Try.prog 18 #[.slice A l.length c] w (ReadMade l w) := by
  have SS : Hid (∀ w', Below w.heap.size w w' → Src w' A l.length c (bv l)) := Lib.hid (fun w' h => hs.same fun ad had hne => h.block _ (hs.lt had hne))
  have HBA : Hid ((w.alloc (.cells zeros 26)).heap[w.heap.size]? = some (.cells zeros 26)) := Lib.hid (heap_alloc_at w _)
  have BA : Hid (Below w.heap.size w (w.alloc (.cells zeros 26))) := Lib.hid ((Below.refl _ _).alloc (Nat.le_refl _) _)
  have hzA : (w.alloc (.cells zeros 26)).heap.size = w.heap.size + 1 := by simp
  have HZR : Hid (zeros = _) := Lib.hid rfl
  obtain ⟨wA, hwA⟩ : ∃ wA, w.alloc (.cells zeros 26) = wA := ⟨_, rfl⟩
  rw [hwA] at HBA BA hzA
  unfold zeros at hwA
  by_cases h20 : l.length < 20
  · have HF : fault l = 51 := by rw [fault, if_pos h20]
    have h20' : ((l.length : Int) < 20) := by omega
    clear h20 hs hb
    go_enter Try.func18, Try.ntmps18
    go_upto_region 1 with fail
    clear hwA
    have HBe := Lib.hid (HBA.out)
    have hb2 := setRow_at zeros HBe.out
    have B2 := Lib.hid (below_setRow (BA.out) (Nat.le_refl _) zeros)
    go_wp2_with (refine wpList_store_block rfl 26 (.tmp 2) (.tmp 10) rfl w.heap.size zeros rfl rfl zeros _ HBe.out (by kernel_rfl) rfl (by kernel_rfl) ?_)
    generalize World.setRow _ w.heap.size zeros = w2 at *
    go_wp2_with fail
    have hcell := cell_of_block hb2
    unfold zeros at hcell
    exact bodyPost_ret (v := .tuple #[.agg (hv noHd none 0), .slice none 0 0, .int .i64 51]) (by simp [results, Try.results18, go_sem, hcell, hv, noHd]) rfl (ReadMade.no HF (by decide) B2.out)
  · have h20' : ¬ ((l.length : Int) < 20) := by omega
    cases A with
    | none => have := (hs.nil rfl).1; omega
    | some ad =>
      have CELL : Hid (∀ w', Below w.heap.size w w' → ∀ j, j < l.length → w'.cell? (ad.add j) = some (.int .u8 (at0 l j))) := Lib.hid (fun w' h j hj => src_cells (SS.out w' h) hj)
      have c0 := CELL.out wA BA.out 0 (by omega)
      rw [show ad.add 0 = ad by simp [Addr.add]] at c0
      have hx := at0_bd hb 0
      have l0 : 0 < l.length := by omega
      have hcap := hs.cap
      have hcm := hs.most
      have HB := Lib.hid hb
      clear hs hb
      by_cases h4 : at0 l 0 / 16 = 4
      · have h4' : ((at0 l 0 / 16) != 4) = false := by rw [bne_eq_false_iff_eq]; exact h4
        have HZ : Hid (4 * (at0 l 0 % 16) = (hlen l : Int)) := Lib.hid (by rw [hlen]; omega)
        have hz : hlen l ≤ 60 := by rw [hlen]; omega
        have HF : Hid (fault l = if hlen l < 20 ∨ l.length < hlen l ∨ at0 l 2 * 256 + at0 l 3 ≠ l.length ∨ 1500 < l.length then 53 else if sumH (l.take (hlen l)) ≠ 0 then 54 else 0) := Lib.hid (by rw [fault, if_neg h20, if_neg (by omega)])
        have wz1 : IntKind.i64.wrap (at0 l 0 % 16) = at0 l 0 % 16 := by rw [IntKind.wrap_i64]; omega
        have wz2 : IntKind.i64.wrap (4 * (at0 l 0 % 16)) = 4 * (at0 l 0 % 16) := by rw [IntKind.wrap_i64]; omega
        have YES := Lib.hid (fun hf w' n1 n2 A A2 c c2 => @ReadMade.yes l w w' n1 n2 A A2 c c2 hf)
        have HOPT : Hid ((headOf l).opts = (l.drop 20).take (hlen l - 20)) := Lib.hid rfl
        have HHV : Hid (∀ A c, hv (headOf l) A c = #[.int .i64 (at0 l 1), .int .i64 (at0 l 4 * 256 + at0 l 5), .int .i64 (at0 l 6 * 256 + at0 l 7), .int .i64 (at0 l 8), .int .i64 (at0 l 9), .int .u8 (at0 l 12), .int .u8 (at0 l 13), .int .u8 (at0 l 14), .int .u8 (at0 l 15), .int .u8 (at0 l 16), .int .u8 (at0 l 17), .int .u8 (at0 l 18), .int .u8 (at0 l 19), .slice A (headOf l).opts.length c]) := Lib.hid (fun _ _ => rfl)
        generalize hlen l = z at *
        clear h4
        go_enter Try.func18, Try.ntmps18
        go_upto_region 1 with fail
        clear hwA
        go_upto_region 6 with fail
        rw [HZ.out]
        clear c0 HZ wz1 wz2
        have p2 : (2 : Int) < (l.length : Int) := by omega
        have p3 : (3 : Int) < (l.length : Int) := by omega
        have b2 := at0_bd HB.out 2
        have b3 := at0_bd HB.out 3
        have c2 : wA.cell? ⟨ad.block, ad.off + 2, none⟩ = _ := CELL.out wA BA.out 2 (by omega)
        have c3 : wA.cell? ⟨ad.block, ad.off + 3, none⟩ = _ := CELL.out wA BA.out 3 (by omega)
        have w2 : IntKind.i64.wrap (at0 l 2) = at0 l 2 := by rw [IntKind.wrap_i64]; omega
        have w3 : IntKind.i64.wrap (at0 l 3) = at0 l 3 := by rw [IntKind.wrap_i64]; omega
        have w4 : IntKind.i64.wrap (256 * at0 l 2) = 256 * at0 l 2 := by rw [IntKind.wrap_i64]; omega
        have w5 : IntKind.i64.wrap (256 * at0 l 2 + at0 l 3) = 256 * at0 l 2 + at0 l 3 := by rw [IntKind.wrap_i64]; omega
        by_cases z1 : (z : Int) < 20
        · have HF2 : fault l = 53 := by rw [HF.out, if_pos (.inl (by omega))]
          go_quiet (fail)
          clear c2 c3 w2 w3 w4 w5
          have HBe := Lib.hid ((show (wA.drewN nq).heap[w.heap.size]? = _ from HBA.out))
          have hb2 := setRow_at zeros HBe.out
          have B2 := Lib.hid (below_setRow (below_drewN BA.out nq) (Nat.le_refl _) zeros)
          go_wp2_with (refine wpList_store_block rfl 26 (.tmp 2) (.tmp 51) rfl w.heap.size zeros rfl rfl zeros _ HBe.out (by kernel_rfl) rfl (by kernel_rfl) ?_)
          generalize World.setRow _ w.heap.size zeros = w2 at *
          go_wp2_with fail
          have hcell := cell_of_block hb2
          unfold zeros at hcell
          exact bodyPost_ret (v := .tuple #[.agg (hv noHd none 0), .slice none 0 0, .int .i64 53]) (by simp [results, Try.results18, go_sem, hcell, hv, noHd]) rfl (ReadMade.no HF2 (by decide) B2.out)
        · by_cases z2 : (l.length : Int) < (z : Int)
          · have HF2 : fault l = 53 := by rw [HF.out, if_pos (.inr (.inl (by omega)))]
            go_quiet (fail)
            clear c2 c3 w2 w3 w4 w5
            have HBe := Lib.hid ((show (wA.drewN nq).heap[w.heap.size]? = _ from HBA.out))
            have hb2 := setRow_at zeros HBe.out
            have B2 := Lib.hid (below_setRow (below_drewN BA.out nq) (Nat.le_refl _) zeros)
            go_wp2_with (refine wpList_store_block rfl 26 (.tmp 2) (.tmp 51) rfl w.heap.size zeros rfl rfl zeros _ HBe.out (by kernel_rfl) rfl (by kernel_rfl) ?_)
            generalize World.setRow _ w.heap.size zeros = w2 at *
            go_wp2_with fail
            have hcell := cell_of_block hb2
            unfold zeros at hcell
            exact bodyPost_ret (v := .tuple #[.agg (hv noHd none 0), .slice none 0 0, .int .i64 53]) (by simp [results, Try.results18, go_sem, hcell, hv, noHd]) rfl (ReadMade.no HF2 (by decide) B2.out)
          · have z3 : z ≤ c := by omega
            have z3' : (z : Int) ≤ (c : Int) := by omega
            by_cases z4 : 256 * at0 l 2 + at0 l 3 = l.length
            · have z4' : ((256 * at0 l 2 + at0 l 3) != (l.length : Int)) = false := by rw [bne_eq_false_iff_eq]; exact z4
              by_cases z5 : 1500 < (l.length : Int)
              · have HF2 : fault l = 53 := by rw [HF.out, if_pos (.inr (.inr (.inr (by omega))))]
                clear z4
                go_quiet (fail)
                clear c2 c3 w2 w3 w4 w5
                have HBe := Lib.hid ((show (wA.drewN nq).heap[w.heap.size]? = _ from HBA.out))
                have hb2 := setRow_at zeros HBe.out
                have B2 := Lib.hid (below_setRow (below_drewN BA.out nq) (Nat.le_refl _) zeros)
                go_wp2_with (refine wpList_store_block rfl 26 (.tmp 2) (.tmp 51) rfl w.heap.size zeros rfl rfl zeros _ HBe.out (by kernel_rfl) rfl (by kernel_rfl) ?_)
                generalize World.setRow _ w.heap.size zeros = w2 at *
                go_wp2_with fail
                have hcell := cell_of_block hb2
                unfold zeros at hcell
                exact bodyPost_ret (v := .tuple #[.agg (hv noHd none 0), .slice none 0 0, .int .i64 53]) (by simp [results, Try.results18, go_sem, hcell, hv, noHd]) rfl (ReadMade.no HF2 (by decide) B2.out)
              · have lz : (l.take z).length = z := by rw [List.length_take]; omega
                have HSM : Hid (∀ w', Src w' (some ad) l.length c (bv l) → Calls Try.prog 15 #[.slice (some ad) z c] w' fun e w2 => e = .returned (.int .i64 (sumH (l.take z))) ∧ w2 = w') := Lib.hid (fun w' hs' => by
                  have := refsum_any (l.take z) (HB.out.take z) (by omega) (some ad) c w' (by rw [lz]; exact src_take hs' (by omega))
                  rw [lz] at this
                  exact this)
                have HF2 : Hid (fault l = if sumH (l.take z) ≠ 0 then 54 else 0) := Lib.hid (by rw [HF.out, if_neg (by omega)])
                clear z4 lz
                generalize sumH (l.take z) = sm at *
                go_quiet (fail)
                clear c2 c3 w2 w3 w4 w5 z4'
                have HBN : Hid ((wA.drewN nq).heap[w.heap.size]? = some (.cells zeros 26)) := Lib.hid HBA.out
                have BN := Lib.hid (below_drewN BA.out nq)
                have hzN : (wA.drewN nq).heap.size = w.heap.size + 1 := hzA
                generalize wA.drewN nq = wN at *
                go_wp2_with fail
                refine (HSM.out _ (SS.out wN BN.out)).mono ?_
                rintro e wN ⟨rfl, rfl⟩
                by_cases z6 : sm = 0
                · have z6' : (sm != 0) = false := by rw [bne_eq_false_iff_eq]; exact z6
                  rw [if_neg (by omega)] at HF2
                  clear z6 HSM
                  have HMK := Lib.hid z1
                  have HZN := Lib.hid hzN
                  clear HF hzA BA HBA hzN
                  have CL0 : ∀ w', Below wN.heap.size wN w' → ∀ j, 0 < j → j < l.length → w'.cell? ⟨ad.block, ad.off + j, none⟩ = some (.int .u8 (at0 l j)) := fun w' h j h0 hj => by
                    rw [← show ad.add j = ⟨ad.block, ad.off + j, none⟩ by simp [Addr.add]; omega]
                    exact CELL.out w' (BN.out.trans (h.mono BN.out.size)) j hj
                  have P1 := Lib.hid (show (1 : Int) < (l.length : Int) by omega)
                  have C1 := Lib.hid (fun w' h => CL0 w' h 1 (by omega) (by omega))
                  have BB1 := Lib.hid (at0_bd HB.out 1)
                  have WR1 : Hid (IntKind.i64.wrap (at0 l 1) = at0 l 1) := Lib.hid (by have := BB1.out; rw [IntKind.wrap_i64]; omega)
                  have P4 := Lib.hid (show (4 : Int) < (l.length : Int) by omega)
                  have C4 := Lib.hid (fun w' h => CL0 w' h 4 (by omega) (by omega))
                  have BB4 := Lib.hid (at0_bd HB.out 4)
                  have WR4 : Hid (IntKind.i64.wrap (at0 l 4) = at0 l 4) := Lib.hid (by have := BB4.out; rw [IntKind.wrap_i64]; omega)
                  have P5 := Lib.hid (show (5 : Int) < (l.length : Int) by omega)
                  have C5 := Lib.hid (fun w' h => CL0 w' h 5 (by omega) (by omega))
                  have BB5 := Lib.hid (at0_bd HB.out 5)
                  have WR5 : Hid (IntKind.i64.wrap (at0 l 5) = at0 l 5) := Lib.hid (by have := BB5.out; rw [IntKind.wrap_i64]; omega)
                  have P6 := Lib.hid (show (6 : Int) < (l.length : Int) by omega)
                  have C6 := Lib.hid (fun w' h => CL0 w' h 6 (by omega) (by omega))
                  have BB6 := Lib.hid (at0_bd HB.out 6)
                  have WR6 : Hid (IntKind.i64.wrap (at0 l 6) = at0 l 6) := Lib.hid (by have := BB6.out; rw [IntKind.wrap_i64]; omega)
                  have P7 := Lib.hid (show (7 : Int) < (l.length : Int) by omega)
                  have C7 := Lib.hid (fun w' h => CL0 w' h 7 (by omega) (by omega))
                  have BB7 := Lib.hid (at0_bd HB.out 7)
                  have WR7 : Hid (IntKind.i64.wrap (at0 l 7) = at0 l 7) := Lib.hid (by have := BB7.out; rw [IntKind.wrap_i64]; omega)
                  have P8 := Lib.hid (show (8 : Int) < (l.length : Int) by omega)
                  have C8 := Lib.hid (fun w' h => CL0 w' h 8 (by omega) (by omega))
                  have BB8 := Lib.hid (at0_bd HB.out 8)
                  have WR8 : Hid (IntKind.i64.wrap (at0 l 8) = at0 l 8) := Lib.hid (by have := BB8.out; rw [IntKind.wrap_i64]; omega)
                  have P9 := Lib.hid (show (9 : Int) < (l.length : Int) by omega)
                  have C9 := Lib.hid (fun w' h => CL0 w' h 9 (by omega) (by omega))
                  have BB9 := Lib.hid (at0_bd HB.out 9)
                  have WR9 : Hid (IntKind.i64.wrap (at0 l 9) = at0 l 9) := Lib.hid (by have := BB9.out; rw [IntKind.wrap_i64]; omega)
                  have P12 := Lib.hid (show (12 : Int) < (l.length : Int) by omega)
                  have C12 := Lib.hid (fun w' h => CL0 w' h 12 (by omega) (by omega))
                  have P13 := Lib.hid (show (13 : Int) < (l.length : Int) by omega)
                  have C13 := Lib.hid (fun w' h => CL0 w' h 13 (by omega) (by omega))
                  have P14 := Lib.hid (show (14 : Int) < (l.length : Int) by omega)
                  have C14 := Lib.hid (fun w' h => CL0 w' h 14 (by omega) (by omega))
                  have P15 := Lib.hid (show (15 : Int) < (l.length : Int) by omega)
                  have C15 := Lib.hid (fun w' h => CL0 w' h 15 (by omega) (by omega))
                  have P16 := Lib.hid (show (16 : Int) < (l.length : Int) by omega)
                  have C16 := Lib.hid (fun w' h => CL0 w' h 16 (by omega) (by omega))
                  have P17 := Lib.hid (show (17 : Int) < (l.length : Int) by omega)
                  have C17 := Lib.hid (fun w' h => CL0 w' h 17 (by omega) (by omega))
                  have P18 := Lib.hid (show (18 : Int) < (l.length : Int) by omega)
                  have C18 := Lib.hid (fun w' h => CL0 w' h 18 (by omega) (by omega))
                  have P19 := Lib.hid (show (19 : Int) < (l.length : Int) by omega)
                  have C19 := Lib.hid (fun w' h => CL0 w' h 19 (by omega) (by omega))
                  have WM4 : Hid (IntKind.i64.wrap (256 * at0 l 4) = 256 * at0 l 4) := Lib.hid (by have := BB4.out; rw [IntKind.wrap_i64]; omega)
                  have WS4 : Hid (IntKind.i64.wrap (256 * at0 l 4 + at0 l 5) = 256 * at0 l 4 + at0 l 5) := Lib.hid (by have := BB4.out; have := BB5.out; rw [IntKind.wrap_i64]; omega)
                  have WM6 : Hid (IntKind.i64.wrap (256 * at0 l 6) = 256 * at0 l 6) := Lib.hid (by have := BB6.out; rw [IntKind.wrap_i64]; omega)
                  have WS6 : Hid (IntKind.i64.wrap (256 * at0 l 6 + at0 l 7) = 256 * at0 l 6 + at0 l 7) := Lib.hid (by have := BB6.out; have := BB7.out; rw [IntKind.wrap_i64]; omega)
                  clear CL0
                  go_upto_region 10 with fail
                  apply wp_region_words2 (fun _ _ => True) (fun d w' => Below wN.heap.size wN w' ∧ (d 33 = false → w'.heap.size = wN.heap.size) ∧ (d 33 = true → ∃ cs, w'.heap[wN.heap.size]? = some (.cells cs 26) ∧ cs.size = 14) ∧ (d 34 = true → w'.heap[wN.heap.size]? = some (.cells #[.int .i64 (at0 l 1), .int .i64 (256 * at0 l 4 + at0 l 5), .int .i64 (256 * at0 l 6 + at0 l 7), .int .i64 (at0 l 8), .int .i64 (at0 l 9), .int .u8 0, .int .u8 0, .int .u8 0, .int .u8 0, .int .u8 0, .int .u8 0, .int .u8 0, .int .u8 0, .slice none 0 0] 26)))
                    [isVal _, isVal _, isVal _, isVal _, isVal _, isVal _, isVal _, isVal _, isVal _, isVal _, isVal _, isVal _, isVal _, isVal _, isVal _, isVal _, isVal _, isVal _, isVal _, isVal _, isVal _, isVal _, isVal _, isVal _, isVal _, isVal _, isVal _, isVal _, isVal _, isVal _, isVal _, isVal _, isVal _, isVal (.pointer (some ⟨wN.heap.size, 0, none⟩)), fun _ _ => True]
                    [[], [0], [1], [2], [], [4], [5], [6], [7], [], [9], [10], [11], [8, 12], [], [14], [15], [16], [17], [], [19], [20], [21], [18, 22], [], [24], [25], [26], [], [28], [29], [30], [3, 13, 23, 27, 31], [], [32, 33]] [0, 1, 2, 3, 4, 5, 6, 7, 8, 9, 10, 11, 12, 13, 14, 15, 16, 17, 18, 19, 20, 21, 22, 23, 24, 25, 26, 27, 28, 29, 30, 31, 32, 33, 34] (by kernel_rfl) (by kernel_rfl) ?hF ?stand ?hI ?steps ?fin
                  case hF => intro v; simp [fillFrom, Act.put]; rfl
                  case stand =>
                    repeat' (first | exact trivial | (refine And.intro ?_ ?_))
                    all_goals first | (intro u w w' h _ _; exact h)
                  case hI => exact ⟨below_dr (Below.refl _ _), fun _ => rfl, (fun h => by cases h), (fun h => by cases h)⟩
                  case steps =>
                    refine And.intro ?_ ?_
                    · intro d v w' hdk hI hdn hd K hK
                      simp only [allOf, word, List.getD_cons_zero, List.getD_cons_succ, isVal, and_true, true_and] at hd
                      have HK := Lib.hid hK
                      clear hK
                      go_simp
                      exact HK.out _ _ rfl (by simpa using hI) (trivial)
                    refine And.intro ?_ ?_
                    · intro d v w' hdk hI hdn hd K hK
                      simp only [allOf, word, List.getD_cons_zero, List.getD_cons_succ, isVal, and_true, true_and] at hd
                      try simp only [hd] at hK
                      have pj := P1.out
                      have HK := Lib.hid hK
                      clear hK
                      go_simp
                      exact HK.out _ _ rfl (by simpa using hI) (trivial)
                    refine And.intro ?_ ?_
                    · intro d v w' hdk hI hdn hd K hK
                      simp only [allOf, word, List.getD_cons_zero, List.getD_cons_succ, isVal, and_true, true_and] at hd
                      simp only [hd] at hK
                      have cc : w'.cell? ⟨ad.block, ad.off + 1, none⟩ = some (.int .u8 (at0 l 1)) := C1.out w' hI.1
                      have HK := Lib.hid hK
                      clear hK
                      go_simp
                      exact HK.out _ _ rfl (by simpa using hI) (trivial)
                    refine And.intro ?_ ?_
                    · intro d v w' hdk hI hdn hd K hK
                      simp only [allOf, word, List.getD_cons_zero, List.getD_cons_succ, isVal, and_true, true_and] at hd
                      try simp only [hd] at hK
                      have wj := WR1.out
                      have HK := Lib.hid hK
                      clear hK
                      go_simp
                      exact HK.out _ _ rfl (by simpa using hI) (trivial)
                    refine And.intro ?_ ?_
                    · intro d v w' hdk hI hdn hd K hK
                      simp only [allOf, word, List.getD_cons_zero, List.getD_cons_succ, isVal, and_true, true_and] at hd
                      have HK := Lib.hid hK
                      clear hK
                      go_simp
                      exact HK.out _ _ rfl (by simpa using hI) (trivial)
                    refine And.intro ?_ ?_
                    · intro d v w' hdk hI hdn hd K hK
                      simp only [allOf, word, List.getD_cons_zero, List.getD_cons_succ, isVal, and_true, true_and] at hd
                      try simp only [hd] at hK
                      have pj := P4.out
                      have HK := Lib.hid hK
                      clear hK
                      go_simp
                      exact HK.out _ _ rfl (by simpa using hI) (trivial)
                    refine And.intro ?_ ?_
                    · intro d v w' hdk hI hdn hd K hK
                      simp only [allOf, word, List.getD_cons_zero, List.getD_cons_succ, isVal, and_true, true_and] at hd
                      simp only [hd] at hK
                      have cc : w'.cell? ⟨ad.block, ad.off + 4, none⟩ = some (.int .u8 (at0 l 4)) := C4.out w' hI.1
                      have HK := Lib.hid hK
                      clear hK
                      go_simp
                      exact HK.out _ _ rfl (by simpa using hI) (trivial)
                    refine And.intro ?_ ?_
                    · intro d v w' hdk hI hdn hd K hK
                      simp only [allOf, word, List.getD_cons_zero, List.getD_cons_succ, isVal, and_true, true_and] at hd
                      try simp only [hd] at hK
                      have wj := WR4.out
                      have HK := Lib.hid hK
                      clear hK
                      go_simp
                      exact HK.out _ _ rfl (by simpa using hI) (trivial)
                    refine And.intro ?_ ?_
                    · intro d v w' hdk hI hdn hd K hK
                      simp only [allOf, word, List.getD_cons_zero, List.getD_cons_succ, isVal, and_true, true_and] at hd
                      try simp only [hd] at hK
                      have wj := WM4.out
                      have HK := Lib.hid hK
                      clear hK
                      go_simp
                      exact HK.out _ _ rfl (by simpa using hI) (trivial)
                    refine And.intro ?_ ?_
                    · intro d v w' hdk hI hdn hd K hK
                      simp only [allOf, word, List.getD_cons_zero, List.getD_cons_succ, isVal, and_true, true_and] at hd
                      have HK := Lib.hid hK
                      clear hK
                      go_simp
                      exact HK.out _ _ rfl (by simpa using hI) (trivial)
                    refine And.intro ?_ ?_
                    · intro d v w' hdk hI hdn hd K hK
                      simp only [allOf, word, List.getD_cons_zero, List.getD_cons_succ, isVal, and_true, true_and] at hd
                      try simp only [hd] at hK
                      have pj := P5.out
                      have HK := Lib.hid hK
                      clear hK
                      go_simp
                      exact HK.out _ _ rfl (by simpa using hI) (trivial)
                    refine And.intro ?_ ?_
                    · intro d v w' hdk hI hdn hd K hK
                      simp only [allOf, word, List.getD_cons_zero, List.getD_cons_succ, isVal, and_true, true_and] at hd
                      simp only [hd] at hK
                      have cc : w'.cell? ⟨ad.block, ad.off + 5, none⟩ = some (.int .u8 (at0 l 5)) := C5.out w' hI.1
                      have HK := Lib.hid hK
                      clear hK
                      go_simp
                      exact HK.out _ _ rfl (by simpa using hI) (trivial)
                    refine And.intro ?_ ?_
                    · intro d v w' hdk hI hdn hd K hK
                      simp only [allOf, word, List.getD_cons_zero, List.getD_cons_succ, isVal, and_true, true_and] at hd
                      try simp only [hd] at hK
                      have wj := WR5.out
                      have HK := Lib.hid hK
                      clear hK
                      go_simp
                      exact HK.out _ _ rfl (by simpa using hI) (trivial)
                    refine And.intro ?_ ?_
                    · intro d v w' hdk hI hdn hd K hK
                      simp only [allOf, word, List.getD_cons_zero, List.getD_cons_succ, isVal, and_true, true_and] at hd
                      obtain ⟨h8, h12⟩ := hd
                      simp only [h8, h12] at hK
                      have wj := WS4.out
                      have HK := Lib.hid hK
                      clear hK
                      go_simp
                      exact HK.out _ _ rfl (by simpa using hI) (trivial)
                    refine And.intro ?_ ?_
                    · intro d v w' hdk hI hdn hd K hK
                      simp only [allOf, word, List.getD_cons_zero, List.getD_cons_succ, isVal, and_true, true_and] at hd
                      have HK := Lib.hid hK
                      clear hK
                      go_simp
                      exact HK.out _ _ rfl (by simpa using hI) (trivial)
                    refine And.intro ?_ ?_
                    · intro d v w' hdk hI hdn hd K hK
                      simp only [allOf, word, List.getD_cons_zero, List.getD_cons_succ, isVal, and_true, true_and] at hd
                      try simp only [hd] at hK
                      have pj := P6.out
                      have HK := Lib.hid hK
                      clear hK
                      go_simp
                      exact HK.out _ _ rfl (by simpa using hI) (trivial)
                    refine And.intro ?_ ?_
                    · intro d v w' hdk hI hdn hd K hK
                      simp only [allOf, word, List.getD_cons_zero, List.getD_cons_succ, isVal, and_true, true_and] at hd
                      simp only [hd] at hK
                      have cc : w'.cell? ⟨ad.block, ad.off + 6, none⟩ = some (.int .u8 (at0 l 6)) := C6.out w' hI.1
                      have HK := Lib.hid hK
                      clear hK
                      go_simp
                      exact HK.out _ _ rfl (by simpa using hI) (trivial)
                    refine And.intro ?_ ?_
                    · intro d v w' hdk hI hdn hd K hK
                      simp only [allOf, word, List.getD_cons_zero, List.getD_cons_succ, isVal, and_true, true_and] at hd
                      try simp only [hd] at hK
                      have wj := WR6.out
                      have HK := Lib.hid hK
                      clear hK
                      go_simp
                      exact HK.out _ _ rfl (by simpa using hI) (trivial)
                    refine And.intro ?_ ?_
                    · intro d v w' hdk hI hdn hd K hK
                      simp only [allOf, word, List.getD_cons_zero, List.getD_cons_succ, isVal, and_true, true_and] at hd
                      try simp only [hd] at hK
                      have wj := WM6.out
                      have HK := Lib.hid hK
                      clear hK
                      go_simp
                      exact HK.out _ _ rfl (by simpa using hI) (trivial)
                    refine And.intro ?_ ?_
                    · intro d v w' hdk hI hdn hd K hK
                      simp only [allOf, word, List.getD_cons_zero, List.getD_cons_succ, isVal, and_true, true_and] at hd
                      have HK := Lib.hid hK
                      clear hK
                      go_simp
                      exact HK.out _ _ rfl (by simpa using hI) (trivial)
                    refine And.intro ?_ ?_
                    · intro d v w' hdk hI hdn hd K hK
                      simp only [allOf, word, List.getD_cons_zero, List.getD_cons_succ, isVal, and_true, true_and] at hd
                      try simp only [hd] at hK
                      have pj := P7.out
                      have HK := Lib.hid hK
                      clear hK
                      go_simp
                      exact HK.out _ _ rfl (by simpa using hI) (trivial)
                    refine And.intro ?_ ?_
                    · intro d v w' hdk hI hdn hd K hK
                      simp only [allOf, word, List.getD_cons_zero, List.getD_cons_succ, isVal, and_true, true_and] at hd
                      simp only [hd] at hK
                      have cc : w'.cell? ⟨ad.block, ad.off + 7, none⟩ = some (.int .u8 (at0 l 7)) := C7.out w' hI.1
                      have HK := Lib.hid hK
                      clear hK
                      go_simp
                      exact HK.out _ _ rfl (by simpa using hI) (trivial)
                    refine And.intro ?_ ?_
                    · intro d v w' hdk hI hdn hd K hK
                      simp only [allOf, word, List.getD_cons_zero, List.getD_cons_succ, isVal, and_true, true_and] at hd
                      try simp only [hd] at hK
                      have wj := WR7.out
                      have HK := Lib.hid hK
                      clear hK
                      go_simp
                      exact HK.out _ _ rfl (by simpa using hI) (trivial)
                    refine And.intro ?_ ?_
                    · intro d v w' hdk hI hdn hd K hK
                      simp only [allOf, word, List.getD_cons_zero, List.getD_cons_succ, isVal, and_true, true_and] at hd
                      obtain ⟨h18, h22⟩ := hd
                      simp only [h18, h22] at hK
                      have wj := WS6.out
                      have HK := Lib.hid hK
                      clear hK
                      go_simp
                      exact HK.out _ _ rfl (by simpa using hI) (trivial)
                    refine And.intro ?_ ?_
                    · intro d v w' hdk hI hdn hd K hK
                      simp only [allOf, word, List.getD_cons_zero, List.getD_cons_succ, isVal, and_true, true_and] at hd
                      have HK := Lib.hid hK
                      clear hK
                      go_simp
                      exact HK.out _ _ rfl (by simpa using hI) (trivial)
                    refine And.intro ?_ ?_
                    · intro d v w' hdk hI hdn hd K hK
                      simp only [allOf, word, List.getD_cons_zero, List.getD_cons_succ, isVal, and_true, true_and] at hd
                      try simp only [hd] at hK
                      have pj := P8.out
                      have HK := Lib.hid hK
                      clear hK
                      go_simp
                      exact HK.out _ _ rfl (by simpa using hI) (trivial)
                    refine And.intro ?_ ?_
                    · intro d v w' hdk hI hdn hd K hK
                      simp only [allOf, word, List.getD_cons_zero, List.getD_cons_succ, isVal, and_true, true_and] at hd
                      simp only [hd] at hK
                      have cc : w'.cell? ⟨ad.block, ad.off + 8, none⟩ = some (.int .u8 (at0 l 8)) := C8.out w' hI.1
                      have HK := Lib.hid hK
                      clear hK
                      go_simp
                      exact HK.out _ _ rfl (by simpa using hI) (trivial)
                    refine And.intro ?_ ?_
                    · intro d v w' hdk hI hdn hd K hK
                      simp only [allOf, word, List.getD_cons_zero, List.getD_cons_succ, isVal, and_true, true_and] at hd
                      try simp only [hd] at hK
                      have wj := WR8.out
                      have HK := Lib.hid hK
                      clear hK
                      go_simp
                      exact HK.out _ _ rfl (by simpa using hI) (trivial)
                    refine And.intro ?_ ?_
                    · intro d v w' hdk hI hdn hd K hK
                      simp only [allOf, word, List.getD_cons_zero, List.getD_cons_succ, isVal, and_true, true_and] at hd
                      have HK := Lib.hid hK
                      clear hK
                      go_simp
                      exact HK.out _ _ rfl (by simpa using hI) (trivial)
                    refine And.intro ?_ ?_
                    · intro d v w' hdk hI hdn hd K hK
                      simp only [allOf, word, List.getD_cons_zero, List.getD_cons_succ, isVal, and_true, true_and] at hd
                      try simp only [hd] at hK
                      have pj := P9.out
                      have HK := Lib.hid hK
                      clear hK
                      go_simp
                      exact HK.out _ _ rfl (by simpa using hI) (trivial)
                    refine And.intro ?_ ?_
                    · intro d v w' hdk hI hdn hd K hK
                      simp only [allOf, word, List.getD_cons_zero, List.getD_cons_succ, isVal, and_true, true_and] at hd
                      simp only [hd] at hK
                      have cc : w'.cell? ⟨ad.block, ad.off + 9, none⟩ = some (.int .u8 (at0 l 9)) := C9.out w' hI.1
                      have HK := Lib.hid hK
                      clear hK
                      go_simp
                      exact HK.out _ _ rfl (by simpa using hI) (trivial)
                    refine And.intro ?_ ?_
                    · intro d v w' hdk hI hdn hd K hK
                      simp only [allOf, word, List.getD_cons_zero, List.getD_cons_succ, isVal, and_true, true_and] at hd
                      try simp only [hd] at hK
                      have wj := WR9.out
                      have HK := Lib.hid hK
                      clear hK
                      go_simp
                      exact HK.out _ _ rfl (by simpa using hI) (trivial)
                    refine And.intro ?_ ?_
                    · intro d v w' hdk hI hdn hd K hK
                      simp only [allOf, word, List.getD_cons_zero, List.getD_cons_succ, isVal, and_true, true_and] at hd
                      obtain ⟨h3, h13, h23, h27, h31⟩ := hd
                      simp only [h3, h13, h23, h27, h31] at hK
                      have HK := Lib.hid hK
                      clear hK
                      go_simp
                      exact HK.out _ _ rfl (by simpa using hI) (trivial)
                    refine And.intro ?_ ?_
                    · intro d v w' hdk hI hdn hd K hK
                      simp only [allOf, word, List.getD_cons_zero, List.getD_cons_succ, isVal, and_true, true_and] at hd
                      have HK := Lib.hid hK
                      clear hK
                      go_simp
                      refine HK.out _ _ rfl ⟨hI.1.alloc hI.1.size _, by simp, fun _ => ⟨_, by rw [← hI.2.1 hdk]; exact heap_alloc_at w' _, rfl⟩, fun h => ?_⟩ trivial
                      have h1 := hI.2.2.2 (by simpa using h)
                      have := block_lt h1
                      have := hI.2.1 hdk
                      omega
                    refine And.intro ?_ ?_
                    · intro d v w' hdk hI hdn hd K hK
                      simp only [allOf, word, List.getD_cons_zero, List.getD_cons_succ, isVal, and_true, true_and] at hd
                      obtain ⟨h32, h33⟩ := hd
                      have HK := Lib.hid hK
                      clear hK
                      rw [if_pos (by rfl)]
                      simp only [allTrue, List.getD_cons_zero, List.getD_cons_succ] at hdn
                      have hI33 : d 33 = true := by simpa using hdn.2.1
                      obtain ⟨cs, g1, g2⟩ := hI.2.2.1 hI33
                      refine wp_store_block 26 (.tmp 6) (.tmp 90) rfl wN.heap.size #[.int .i64 (at0 l 1), .int .i64 (256 * at0 l 4 + at0 l 5), .int .i64 (256 * at0 l 6 + at0 l 7), .int .i64 (at0 l 8), .int .i64 (at0 l 9), .int .u8 0, .int .u8 0, .int .u8 0, .int .u8 0, .int .u8 0, .int .u8 0, .int .u8 0, .int .u8 0, .slice none 0 0] h33 h32 cs _ g1 (by kernel_rfl) g2 (by kernel_rfl) ?_
                      exact HK.out _ _ trivial ⟨below_setRow hI.1 (Nat.le_refl _) _, (fun h => by simp [hI33] at h), fun _ => ⟨_, setRow_at _ g1, rfl⟩, fun _ => setRow_at _ g1⟩ trivial
                    exact trivial
                  intro v wx d hall hI hd
                  simp only [allOf, word, List.getD_cons_zero, List.getD_cons_succ, isVal, and_true, true_and] at hd
                  obtain ⟨h0, h1, h2, h3, h4, h5, h6, h7, h8, h9, h10, h11, h12, h13, h14, h15, h16, h17, h18, h19, h20, h21, h22, h23, h24, h25, h26, h27, h28, h29, h30, h31, h32, h33⟩ := hd
                  simp only [h0, h1, h2, h3, h4, h5, h6, h7, h8, h9, h10, h11, h12, h13, h14, h15, h16, h17, h18, h19, h20, h21, h22, h23, h24, h25, h26, h27, h28, h29, h30, h31, h32, h33]
                  clear h0 h1 h2 h3 h4 h5 h6 h7 h8 h9 h10 h11 h12 h13 h14 h15 h16 h17 h18 h19 h20 h21 h22 h23 h24 h25 h26 h27 h28 h29 h30 h31 h32 h33
                  have HG := Lib.hid (hI.2.2.2 (hall 34 (by decide)))
                  have HX := Lib.hid hI.1
                  clear hI hall
                  go_upto_region 11 with fail
                  have HXwy : Hid (Below wN.heap.size wN (World.drew (World.setCell (World.setCell (World.setCell (World.setCell wx ⟨wN.heap.size, 5, none⟩ (.int .u8 (at0 l 12))) ⟨wN.heap.size, 6, none⟩ (.int .u8 (at0 l 13))) ⟨wN.heap.size, 7, none⟩ (.int .u8 (at0 l 14))) ⟨wN.heap.size, 8, none⟩ (.int .u8 (at0 l 15))))) := Lib.hid (below_dr ((((HX.out.setCell (p := ⟨wN.heap.size, 5, none⟩) (Nat.le_refl _) (.int .u8 (at0 l 12))).setCell (p := ⟨wN.heap.size, 6, none⟩) (Nat.le_refl _) (.int .u8 (at0 l 13))).setCell (p := ⟨wN.heap.size, 7, none⟩) (Nat.le_refl _) (.int .u8 (at0 l 14))).setCell (p := ⟨wN.heap.size, 8, none⟩) (Nat.le_refl _) (.int .u8 (at0 l 15))))
                  have HGwy : Hid ((World.drew (World.setCell (World.setCell (World.setCell (World.setCell wx ⟨wN.heap.size, 5, none⟩ (.int .u8 (at0 l 12))) ⟨wN.heap.size, 6, none⟩ (.int .u8 (at0 l 13))) ⟨wN.heap.size, 7, none⟩ (.int .u8 (at0 l 14))) ⟨wN.heap.size, 8, none⟩ (.int .u8 (at0 l 15)))).heap[wN.heap.size]? = some (.cells #[.int .i64 (at0 l 1), .int .i64 (256 * at0 l 4 + at0 l 5), .int .i64 (256 * at0 l 6 + at0 l 7), .int .i64 (at0 l 8), .int .i64 (at0 l 9), .int .u8 (at0 l 12), .int .u8 (at0 l 13), .int .u8 (at0 l 14), .int .u8 (at0 l 15), .int .u8 0, .int .u8 0, .int .u8 0, .int .u8 0, .slice none 0 0] 26)) := Lib.hid (hset_at _ wN.heap.size 8 (.int .u8 (at0 l 15)) (hset_at _ wN.heap.size 7 (.int .u8 (at0 l 14)) (hset_at _ wN.heap.size 6 (.int .u8 (at0 l 13)) (hset_at _ wN.heap.size 5 (.int .u8 (at0 l 12)) HG.out))))
                  have a12 := C12.out wx HX.out
                  have pp12 := P12.out
                  have k5 := cell_of_block HG.out 5
                  have f5 := free_of_block HG.out 5
                  have a13 := C13.out wx HX.out
                  have pp13 := P13.out
                  have k6 := cell_of_block HG.out 6
                  have f6 := free_of_block HG.out 6
                  have a14 := C14.out wx HX.out
                  have pp14 := P14.out
                  have k7 := cell_of_block HG.out 7
                  have f7 := free_of_block HG.out 7
                  have a15 := C15.out wx HX.out
                  have pp15 := P15.out
                  have k8 := cell_of_block HG.out 8
                  have f8 := free_of_block HG.out 8
                  simp only [List.getElem?_toArray] at k5 k6 k7 k8
                  go_region_held3 (fun w' => w'.cell? ⟨ad.block, ad.off + 12, none⟩ = some (.int .u8 (at0 l 12)) ∧ w'.cell? ⟨ad.block, ad.off + 13, none⟩ = some (.int .u8 (at0 l 13)) ∧ w'.cell? ⟨ad.block, ad.off + 14, none⟩ = some (.int .u8 (at0 l 14)) ∧ w'.cell? ⟨ad.block, ad.off + 15, none⟩ = some (.int .u8 (at0 l 15))) (first | exact ⟨a12, a13, a14, a15⟩ | exact ⟨C12.out _ HXwy.out, C13.out _ HXwy.out, C14.out _ HXwy.out, C15.out _ HXwy.out⟩ | go_keep) (fail)
                  clear a12 pp12 k5 f5 a13 pp13 k6 f6 a14 pp14 k7 f7 a15 pp15 k8 f8
                  generalize World.drew (World.setCell (World.setCell (World.setCell (World.setCell wx ⟨wN.heap.size, 5, none⟩ (.int .u8 (at0 l 12))) ⟨wN.heap.size, 6, none⟩ (.int .u8 (at0 l 13))) ⟨wN.heap.size, 7, none⟩ (.int .u8 (at0 l 14))) ⟨wN.heap.size, 8, none⟩ (.int .u8 (at0 l 15))) = wy at *
                  go_upto_region 12 with fail
                  have HXwz : Hid (Below wN.heap.size wN (World.drew (World.setCell (World.setCell (World.setCell (World.setCell wy ⟨wN.heap.size, 9, none⟩ (.int .u8 (at0 l 16))) ⟨wN.heap.size, 10, none⟩ (.int .u8 (at0 l 17))) ⟨wN.heap.size, 11, none⟩ (.int .u8 (at0 l 18))) ⟨wN.heap.size, 12, none⟩ (.int .u8 (at0 l 19))))) := Lib.hid (below_dr ((((HXwy.out.setCell (p := ⟨wN.heap.size, 9, none⟩) (Nat.le_refl _) (.int .u8 (at0 l 16))).setCell (p := ⟨wN.heap.size, 10, none⟩) (Nat.le_refl _) (.int .u8 (at0 l 17))).setCell (p := ⟨wN.heap.size, 11, none⟩) (Nat.le_refl _) (.int .u8 (at0 l 18))).setCell (p := ⟨wN.heap.size, 12, none⟩) (Nat.le_refl _) (.int .u8 (at0 l 19))))
                  have HGwz : Hid ((World.drew (World.setCell (World.setCell (World.setCell (World.setCell wy ⟨wN.heap.size, 9, none⟩ (.int .u8 (at0 l 16))) ⟨wN.heap.size, 10, none⟩ (.int .u8 (at0 l 17))) ⟨wN.heap.size, 11, none⟩ (.int .u8 (at0 l 18))) ⟨wN.heap.size, 12, none⟩ (.int .u8 (at0 l 19)))).heap[wN.heap.size]? = some (.cells #[.int .i64 (at0 l 1), .int .i64 (256 * at0 l 4 + at0 l 5), .int .i64 (256 * at0 l 6 + at0 l 7), .int .i64 (at0 l 8), .int .i64 (at0 l 9), .int .u8 (at0 l 12), .int .u8 (at0 l 13), .int .u8 (at0 l 14), .int .u8 (at0 l 15), .int .u8 (at0 l 16), .int .u8 (at0 l 17), .int .u8 (at0 l 18), .int .u8 (at0 l 19), .slice none 0 0] 26)) := Lib.hid (hset_at _ wN.heap.size 12 (.int .u8 (at0 l 19)) (hset_at _ wN.heap.size 11 (.int .u8 (at0 l 18)) (hset_at _ wN.heap.size 10 (.int .u8 (at0 l 17)) (hset_at _ wN.heap.size 9 (.int .u8 (at0 l 16)) HGwy.out))))
                  have a16 := C16.out wy HXwy.out
                  have pp16 := P16.out
                  have k9 := cell_of_block HGwy.out 9
                  have f9 := free_of_block HGwy.out 9
                  have a17 := C17.out wy HXwy.out
                  have pp17 := P17.out
                  have k10 := cell_of_block HGwy.out 10
                  have f10 := free_of_block HGwy.out 10
                  have a18 := C18.out wy HXwy.out
                  have pp18 := P18.out
                  have k11 := cell_of_block HGwy.out 11
                  have f11 := free_of_block HGwy.out 11
                  have a19 := C19.out wy HXwy.out
                  have pp19 := P19.out
                  have k12 := cell_of_block HGwy.out 12
                  have f12 := free_of_block HGwy.out 12
                  simp only [List.getElem?_toArray] at k9 k10 k11 k12
                  go_region_held3 (fun w' => w'.cell? ⟨ad.block, ad.off + 16, none⟩ = some (.int .u8 (at0 l 16)) ∧ w'.cell? ⟨ad.block, ad.off + 17, none⟩ = some (.int .u8 (at0 l 17)) ∧ w'.cell? ⟨ad.block, ad.off + 18, none⟩ = some (.int .u8 (at0 l 18)) ∧ w'.cell? ⟨ad.block, ad.off + 19, none⟩ = some (.int .u8 (at0 l 19))) (first | exact ⟨a16, a17, a18, a19⟩ | exact ⟨C16.out _ HXwz.out, C17.out _ HXwz.out, C18.out _ HXwz.out, C19.out _ HXwz.out⟩ | go_keep) (fail)
                  clear a16 pp16 k9 f9 a17 pp17 k10 f10 a18 pp18 k11 f11 a19 pp19 k12 f12
                  generalize World.drew (World.setCell (World.setCell (World.setCell (World.setCell wy ⟨wN.heap.size, 9, none⟩ (.int .u8 (at0 l 16))) ⟨wN.heap.size, 10, none⟩ (.int .u8 (at0 l 17))) ⟨wN.heap.size, 11, none⟩ (.int .u8 (at0 l 18))) ⟨wN.heap.size, 12, none⟩ (.int .u8 (at0 l 19))) = wz at *
                  go_upto_region 13 with fail
                  have lo : ((l.drop 20).take (z - 20)).length = z - 20 := by rw [List.length_take, List.length_drop]; omega
                  have lp : (l.drop z).length = l.length - z := List.length_drop
                  have SUB : Hid (∀ n, 0 < n → n ≤ l.length → ∀ w', Below wN.heap.size wN w' → Src w' (some ⟨ad.block, ad.off + n, none⟩) (l.length - n) (c - n) (bv (l.drop n))) := Lib.hid (fun n h0 h w' hb => by
                    have h1 := src_drop (SS.out w' (BN.out.trans (hb.mono BN.out.size))) h
                    rw [show ad.add n = ⟨ad.block, ad.off + n, none⟩ by simp [Addr.add]; omega] at h1
                    exact h1)
                  have LO := Lib.hid lo
                  have LP := Lib.hid lp
                  have hzc : z ≤ c := by omega
                  have hz20 : (20 : Int) ≤ (z : Int) := by omega
                  have hgs : wN.heap.size < wz.heap.size := block_lt HGwz.out
                  clear lo lp
                  go_cut [] (fun wq => ∃ Ao co, wq.heap[wN.heap.size]? = some (.cells #[.int .i64 (at0 l 1), .int .i64 (256 * at0 l 4 + at0 l 5), .int .i64 (256 * at0 l 6 + at0 l 7), .int .i64 (at0 l 8), .int .i64 (at0 l 9), .int .u8 (at0 l 12), .int .u8 (at0 l 13), .int .u8 (at0 l 14), .int .u8 (at0 l 15), .int .u8 (at0 l 16), .int .u8 (at0 l 17), .int .u8 (at0 l 18), .int .u8 (at0 l 19), .slice Ao (z - 20) co] 26) ∧ wq.ownsRow wN.heap.size 5 1 (.slice Ao (z - 20) co) (z - 20) (bv ((l.drop 20).take (z - 20))) ∧ Below wN.heap.size wN wq)
                  case first =>
                    by_cases hc20 : c = 20
                    · obtain rfl : z = 20 := by omega
                      subst hc20
                      go_wp2_with (at_builtin; refine wpList_append_any rfl (.tmp 119) (.tmp 122) 24 rfl wz.heap.size 5 (.int .u8 0) 1 1 Try.underlying24 info_u8 rfl (by decide) (by decide) (.slice (some ⟨wz.heap.size, 0, none⟩) 0 0) 0 [] rfl ?a120 _ (20 - 20) _ (bv ((l.drop 20).take (20 - 20))) rfl ?a220 ?a320 (bv_one _) ?a520 ?a620 ?a720)
                      case a120 => exact World.ownsRow_made wz #[] 0 (Nat.le_refl _) (Nat.zero_le _) rfl
                      case a220 => exact ⟨(fun h => by cases h), by omega, by simp [maxLen], fun a' had j u hu => by simp [bv] at hu⟩
                      case a320 => rw [bv_length, LO.out, Nat.mul_one]
                      case a520 => omega
                      case a620 => simp
                      intro v1 w4 hown1 hgr1 _ _
                      have b4 : Below wz.heap.size wz w4 := ((Below.refl _ _).alloc (Nat.le_refl _) (.cells #[] 5)).grown hgr1 (by simp) (by simp [Value.ownBlock])
                      obtain ⟨Ao, co, rfl, -⟩ := own_form hown1
                      have HO := Lib.hid hown1
                      have HB4 := Lib.hid b4
                      have HG4 := Lib.hid ((b4.block wN.heap.size hgs).trans HGwz.out)
                      clear hown1 hgr1 b4
                      have hc13 := cell_of_block HG4.out 13
                      have hf13 := free_of_block HG4.out 13
                      simp only [List.getElem?_toArray] at hc13
                      go_wp2_with fail
                      go_meet
                      refine ⟨Ao, co, ?_, ?_, ?_⟩
                      · have := hset_at _ wN.heap.size 13 (.slice Ao (20 - 20) co) HG4.out
                        simpa using this
                      · refine own_base (own_same HO.out fun k e => hset_other _ _ _ ?_) HXwz.out.size
                        have := HO.out.lt k e
                        intro e2
                        have e3 : k = wN.heap.size := e2
                        omega
                      · exact (HXwz.out.trans (HB4.out.mono HXwz.out.size)).setCell (p := ⟨wN.heap.size, 13, none⟩) (Nat.le_refl _) _
                    · go_wp2_with (at_builtin; refine wpList_append_any rfl (.tmp 119) (.tmp 122) 24 rfl wz.heap.size 5 (.int .u8 0) 1 1 Try.underlying24 info_u8 rfl (by decide) (by decide) (.slice (some ⟨wz.heap.size, 0, none⟩) 0 0) 0 [] rfl ?a1z _ (z - 20) _ (bv ((l.drop 20).take (z - 20))) rfl ?a2z ?a3z (bv_one _) ?a5z ?a6z ?a7z)
                      case a1z => exact World.ownsRow_made wz #[] 0 (Nat.le_refl _) (Nat.zero_le _) rfl
                      case a2z => have h1 := SUB.out 20 (by omega) (by omega) _ (HXwz.out.alloc HXwz.out.size (.cells #[] 5)); rw [← List.length_drop] at h1; exact src_take h1 (by rw [List.length_drop]; omega)
                      case a3z => rw [bv_length, LO.out, Nat.mul_one]
                      case a5z => omega
                      case a6z => simp
                      intro v1 w4 hown1 hgr1 _ _
                      have b4 : Below wz.heap.size wz w4 := ((Below.refl _ _).alloc (Nat.le_refl _) (.cells #[] 5)).grown hgr1 (by simp) (by simp [Value.ownBlock])
                      obtain ⟨Ao, co, rfl, -⟩ := own_form hown1
                      have HO := Lib.hid hown1
                      have HB4 := Lib.hid b4
                      have HG4 := Lib.hid ((b4.block wN.heap.size hgs).trans HGwz.out)
                      clear hown1 hgr1 b4
                      have hc13 := cell_of_block HG4.out 13
                      have hf13 := free_of_block HG4.out 13
                      simp only [List.getElem?_toArray] at hc13
                      go_wp2_with fail
                      go_meet
                      refine ⟨Ao, co, ?_, ?_, ?_⟩
                      · have := hset_at _ wN.heap.size 13 (.slice Ao (z - 20) co) HG4.out
                        simpa using this
                      · refine own_base (own_same HO.out fun k e => hset_other _ _ _ ?_) HXwz.out.size
                        have := HO.out.lt k e
                        intro e2
                        have e3 : k = wN.heap.size := e2
                        omega
                      · exact (HXwz.out.trans (HB4.out.mono HXwz.out.size)).setCell (p := ⟨wN.heap.size, 13, none⟩) (Nat.le_refl _) _
                  case rest =>
                    obtain ⟨Ao, co, hgc, hoc, hbc⟩ := hcut
                    have HBc : Hid (wc.heap[w.heap.size]? = some (.cells zeros 26)) := Lib.hid ((hbc.block w.heap.size (block_lt HBN.out)).trans HBN.out)
                    have BWc : Hid (Below w.heap.size w wc) := Lib.hid (BN.out.trans (hbc.mono BN.out.size))
                    have hgN : w.heap.size < wN.heap.size := by have := HZN.out; omega
                    have hNc := hbc.size
                    have HGc := Lib.hid hgc
                    have HOc := Lib.hid hoc
                    obtain ⟨XA, hXA⟩ : ∃ XA, (if c = z then ad else ad.add z) = XA := ⟨_, rfl⟩
                    have HXA : Hid ((if c = z then some ad else some (ad.add z)) = some XA) := Lib.hid (by rw [← hXA]; split <;> rfl)
                    have SUB2 : Hid (∀ w', Below w.heap.size w w' → Src w' (some XA) (l.length - z) (c - z) (bv (l.drop z))) := Lib.hid (fun w' hb => by
                      by_cases hcz : c = z
                      · rw [List.drop_of_length_le (by omega)]
                        exact ⟨(fun h => by cases h), by omega, by omega, fun a' had j u hu => by simp [bv] at hu⟩
                      · rw [if_neg hcz] at hXA
                        rw [← hXA]
                        exact src_drop (SS.out w' hb) (by omega))
                    clear hgc hoc hbc hXA SUB HX HXwy HXwz hgs HBN
                    go_upto_region 14 with fail
                    apply wp_region_words2 (fun u u' => ∀ k, wc.heap.size ≤ k → k < u.heap.size → u'.heap[k]? = u.heap[k]?) (fun d w' => Below w.heap.size w w' ∧ wc.heap.size ≤ w'.heap.size ∧ (∀ k, w.heap.size < k → k < wc.heap.size → w'.heap[k]? = wc.heap[k]?) ∧ (∃ cs, w'.heap[w.heap.size]? = some (.cells cs 26) ∧ cs.size = 14) ∧ (d 6 = true → w'.heap[w.heap.size]? = some (.cells #[.int .i64 (at0 l 1), .int .i64 (256 * at0 l 4 + at0 l 5), .int .i64 (256 * at0 l 6 + at0 l 7), .int .i64 (at0 l 8), .int .i64 (at0 l 9), .int .u8 (at0 l 12), .int .u8 (at0 l 13), .int .u8 (at0 l 14), .int .u8 (at0 l 15), .int .u8 (at0 l 16), .int .u8 (at0 l 17), .int .u8 (at0 l 18), .int .u8 (at0 l 19), .slice Ao (z - 20) co] 26)) ∧ (d 1 = false → w'.heap.size = wc.heap.size) ∧ (d 1 = true → w'.heap[wc.heap.size]? = some (.cells #[] 5)))
                      [isVal (.agg #[.int .i64 (at0 l 1), .int .i64 (256 * at0 l 4 + at0 l 5), .int .i64 (256 * at0 l 6 + at0 l 7), .int .i64 (at0 l 8), .int .i64 (at0 l 9), .int .u8 (at0 l 12), .int .u8 (at0 l 13), .int .u8 (at0 l 14), .int .u8 (at0 l 15), .int .u8 (at0 l 16), .int .u8 (at0 l 17), .int .u8 (at0 l 18), .int .u8 (at0 l 19), .slice Ao (z - 20) co]), isVal (.slice (some ⟨wc.heap.size, 0, none⟩) 0 0), isVal _, isVal _, isVal _, OwnWord wc.heap.size (l.length - z) (l.drop z), fun _ _ => True, OwnWord wc.heap.size (l.length - z) (l.drop z), isVal _]
                      [[], [], [], [], [2, 3], [1, 4], [0], [5], []] [0, 1, 2, 3, 4, 5, 6, 7, 8] (by kernel_rfl) (by kernel_rfl) ?hFb ?standb ?hIb ?stepsb ?finb
                    case hFb => intro v; simp [fillFrom, Act.put]; rfl
                    case standb =>
                      repeat' (first | exact trivial | (refine And.intro ?_ ?_))
                      all_goals first | exact ownWord_stand | exact (fun _ _ _ _ _ _ => trivial) | (intro u w w' h _ _; exact h)
                    case hIb => exact ⟨below_dr BWc.out, Nat.le_refl _, fun _ _ _ => rfl, ⟨_, HBc.out, rfl⟩, (fun h => by cases h), (fun _ => rfl), (fun h => by cases h)⟩
                    case stepsb =>
                      refine And.intro ?_ ?_
                      · intro d v w' hdk hI hdn hd K hK
                        simp only [allOf, word, List.getD_cons_zero, List.getD_cons_succ, isVal, and_true, true_and] at hd
                        have HK := Lib.hid hK
                        clear hK
                        rw [if_pos (by rfl)]
                        have hgw := (hI.2.2.1 wN.heap.size hgN (block_lt HGc.out)).trans HGc.out
                        refine wp_load_block 26 (.tmp 6) rfl wN.heap.size rfl #[.int .i64 (at0 l 1), .int .i64 (256 * at0 l 4 + at0 l 5), .int .i64 (256 * at0 l 6 + at0 l 7), .int .i64 (at0 l 8), .int .i64 (at0 l 9), .int .u8 (at0 l 12), .int .u8 (at0 l 13), .int .u8 (at0 l 14), .int .u8 (at0 l 15), .int .u8 (at0 l 16), .int .u8 (at0 l 17), .int .u8 (at0 l 18), .int .u8 (at0 l 19), .slice Ao (z - 20) co] 26 (0, 0) hgw _ Try.underlying26 rfl (by kernel_rfl) ?_
                        exact HK.out _ _ rfl (by simpa using hI) (fun _ _ _ => rfl)
                      refine And.intro ?_ ?_
                      · intro d v w' hdk hI hdn hd K hK
                        simp only [allOf, word, List.getD_cons_zero, List.getD_cons_succ, isVal, and_true, true_and] at hd
                        have HK := Lib.hid hK
                        clear hK
                        go_simp
                        have hz1 := hI.2.2.2.2.2.1 hdk
                        refine HK.out _ _ rfl ⟨hI.1.alloc hI.1.size _, (by have := hI.2.1; simp; omega), (fun k h1 h2 => (heap_alloc_old w' _ (by omega)).trans (hI.2.2.1 k h1 h2)), (by obtain ⟨cs, g1, g2⟩ := hI.2.2.2.1; exact ⟨cs, (heap_alloc_old w' _ (block_lt g1)).trans g1, g2⟩), (fun h => by have h5 := hI.2.2.2.2.1 (by simpa using h); exact (heap_alloc_old w' _ (block_lt h5)).trans h5), (fun h => by simp at h), (fun _ => by rw [← hz1]; exact heap_alloc_at w' _)⟩ (fun k h1 h2 => heap_alloc_old w' _ h2)
                      refine And.intro ?_ ?_
                      · intro d v w' hdk hI hdn hd K hK
                        simp only [allOf, word, List.getD_cons_zero, List.getD_cons_succ, isVal, and_true, true_and] at hd
                        have HK := Lib.hid hK
                        clear hK
                        go_simp
                        exact HK.out _ _ rfl (by simpa using hI) (fun _ _ _ => rfl)
                      refine And.intro ?_ ?_
                      · intro d v w' hdk hI hdn hd K hK
                        simp only [allOf, word, List.getD_cons_zero, List.getD_cons_succ, isVal, and_true, true_and] at hd
                        have HK := Lib.hid hK
                        clear hK
                        go_simp
                        exact HK.out _ _ rfl (by simpa using hI) (fun _ _ _ => rfl)
                      refine And.intro ?_ ?_
                      · intro d v w' hdk hI hdn hd K hK
                        simp only [allOf, word, List.getD_cons_zero, List.getD_cons_succ, isVal, and_true, true_and] at hd
                        obtain ⟨h2, h3⟩ := hd
                        simp only [h2, h3] at hK
                        have HK := Lib.hid hK
                        clear hK
                        go_simp
                        exact HK.out _ _ rfl (by simpa using hI) (fun _ _ _ => rfl)
                      refine And.intro ?_ ?_
                      · intro d v w' hdk hI hdn hd K hK
                        simp only [allOf, word, List.getD_cons_zero, List.getD_cons_succ, isVal, and_true, true_and] at hd
                        obtain ⟨h1, h4⟩ := hd
                        rw [HXA.out] at h4
                        have HK := Lib.hid hK
                        clear hK
                        rw [if_pos (by rfl)]
                        simp only [allTrue, List.getD_cons_zero, List.getD_cons_succ] at hdn
                        have hI1 : d 1 = true := by simpa using hdn.1
                        have hg1 := hI.2.2.2.2.2.2 hI1
                        refine wp_append_fresh (.tmp 126) (.tmp 129) 24 (by rfl) wc.heap.size 5 (.int .u8 0) 1 1 Try.underlying24 info_u8 rfl (by decide) (by decide) ⟨wc.heap.size, 0, none⟩ h1 ?_ XA (l.length - z) (c - z) (bv (l.drop z)) h4 (SUB2.out w' hI.1) (by rw [bv_length, LP.out, Nat.mul_one]) (by omega) hI.2.1 ?_
                        · exact ⟨rfl, .inr ⟨wc.heap.size, 0, _, rfl, Nat.le_refl _, hg1, Nat.le_refl _, by simp [maxLen], by simp, by simp⟩⟩
                        intro v5 w5 ho hg
                        obtain ⟨Ap, cp, rfl, -⟩ := own_form ho
                        have hsz : w'.heap.size ≤ w5.heap.size := hg.size
                        exact HK.out _ _ ⟨Ap, cp, rfl, ho⟩ ⟨hI.1.grown hg hI.1.size (fun k hk => by cases hk), Nat.le_trans hI.2.1 hsz, (fun k h1 h2 => (hg.block k (by omega) (by simp)).trans (hI.2.2.1 k h1 h2)), (by obtain ⟨cs, g1, g2⟩ := hI.2.2.2.1; exact ⟨cs, (hg.block _ (block_lt g1) (by simp)).trans g1, g2⟩), (fun h => by have h5 := hI.2.2.2.2.1 (by simpa using h); exact (hg.block _ (block_lt h5) (by simp)).trans h5), (fun h => by simp [hI1] at h), (fun _ => (hg.block _ (block_lt hg1) (by simp)).trans hg1)⟩ (fun k h1 h2 => hg.block k h2 (by simp))
                      refine And.intro ?_ ?_
                      · intro d v w' hdk hI hdn hd K hK
                        simp only [allOf, word, List.getD_cons_zero, List.getD_cons_succ, isVal, and_true, true_and] at hd
                        have HK := Lib.hid hK
                        clear hK
                        rw [if_pos (by rfl)]
                        obtain ⟨cs, g1, g2⟩ := hI.2.2.2.1
                        refine wp_store_block 26 (.tmp 2) (.tmp 125) rfl w.heap.size #[.int .i64 (at0 l 1), .int .i64 (256 * at0 l 4 + at0 l 5), .int .i64 (256 * at0 l 6 + at0 l 7), .int .i64 (at0 l 8), .int .i64 (at0 l 9), .int .u8 (at0 l 12), .int .u8 (at0 l 13), .int .u8 (at0 l 14), .int .u8 (at0 l 15), .int .u8 (at0 l 16), .int .u8 (at0 l 17), .int .u8 (at0 l 18), .int .u8 (at0 l 19), .slice Ao (z - 20) co] rfl hd cs _ g1 (by kernel_rfl) g2 (by kernel_rfl) ?_
                        exact HK.out _ _ trivial ⟨below_setRow hI.1 (Nat.le_refl _) _, by simpa [World.setRow] using hI.2.1, (fun k h1 h2 => (setRow_other _ _ _ _ (by omega)).trans (hI.2.2.1 k h1 h2)), ⟨_, setRow_at _ g1, rfl⟩, (fun _ => setRow_at _ g1), (fun h => by have h5 := hI.2.2.2.2.2.1 (by simpa using h); simpa [World.setRow] using h5), (fun h => (setRow_other _ _ _ _ (by omega)).trans (hI.2.2.2.2.2.2 (by simpa using h)))⟩ (fun k h1 h2 => setRow_other _ _ _ _ (by omega))
                      refine And.intro ?_ ?_
                      · intro d v w' hdk hI hdn hd K hK
                        simp only [allOf, word, List.getD_cons_zero, List.getD_cons_succ, isVal, and_true, true_and] at hd
                        obtain ⟨Ap, cp, h5, ho⟩ := hd
                        simp only [h5] at hK
                        have HK := Lib.hid hK
                        clear hK
                        go_simp
                        exact HK.out _ _ ⟨Ap, cp, rfl, ho⟩ (by simpa using hI) (fun _ _ _ => rfl)
                      refine And.intro ?_ ?_
                      · intro d v w' hdk hI hdn hd K hK
                        simp only [allOf, word, List.getD_cons_zero, List.getD_cons_succ, isVal, and_true, true_and] at hd
                        have HK := Lib.hid hK
                        clear hK
                        go_simp
                        exact HK.out _ _ rfl (by simpa using hI) (fun _ _ _ => rfl)
                      exact trivial
                    intro v wq d hall hI hd
                    simp only [allOf, word, List.getD_cons_zero, List.getD_cons_succ, isVal, and_true, true_and] at hd
                    obtain ⟨h0, h1, h2, h3, h4, ⟨Ap', cp', h5, -⟩, ⟨Ap, cp, h7, hop⟩, h8⟩ := hd
                    simp only [h0, h1, h2, h3, h4, h5, h7, h8]
                    clear h0 h1 h2 h3 h4 h5 h7 h8
                    have hres := hI.2.2.2.2.1 (hall 6 (by decide))
                    have hcell := cell_of_block hres
                    have HOP := Lib.hid hop
                    have HI := Lib.hid hI
                    have how2 := own_same HOc.out (fun k e => (HI.out.2.2.1 k (by have := (HOc.out.lt k e).1; omega) (HOc.out.lt k e).2))
                    have HO2 := Lib.hid how2
                    clear hI hall hop how2 hres HXA SUB2
                    generalize (if c = z then some ad else some (ad.add z)) = X at *
                    go_wp2_with fail
                    have hy := YES.out HF2.out wq (z - 20) (l.length - z) Ao Ap co cp (by rw [HOPT.out]; exact LO.out) LP.out (by rw [HOPT.out]; exact own_base HO2.out (by omega)) (own_base HOP.out (by omega)) HI.out.1
                    rw [HHV.out, HOPT.out, LO.out, Int.mul_comm (at0 l 4) 256, Int.mul_comm (at0 l 6) 256] at hy
                    exact bodyPost_ret (v := .tuple #[.agg _, .slice Ap (l.length - z) cp, .int .i64 0]) (by simp [results, Try.results18, go_sem, hcell]) rfl hy
                · have z6' : (sm != 0) = true := by rw [bne_iff_ne]; exact z6
                  have HF3 := HF2.out
                  rw [if_pos z6] at HF3
                  clear z6 HSM
                  have HBe := Lib.hid (HBN.out)
                  have hb2 := setRow_at zeros HBe.out
                  have B2 := Lib.hid (below_setRow (BN.out) (Nat.le_refl _) zeros)
                  go_wp2_with (refine wpList_store_block rfl 26 (.tmp 2) (.tmp 57) rfl w.heap.size zeros rfl rfl zeros _ HBe.out (by kernel_rfl) rfl (by kernel_rfl) ?_)
                  generalize World.setRow _ w.heap.size zeros = w22 at *
                  go_wp2_with fail
                  have hcell := cell_of_block hb2
                  unfold zeros at hcell
                  exact bodyPost_ret (v := .tuple #[.agg (hv noHd none 0), .slice none 0 0, .int .i64 54]) (by simp [results, Try.results18, go_sem, hcell, hv, noHd]) rfl (ReadMade.no HF3 (by decide) B2.out)
            · have z4' : ((256 * at0 l 2 + at0 l 3) != (l.length : Int)) = true := by rw [bne_iff_ne]; exact z4
              have HF2 : fault l = 53 := by rw [HF.out, if_pos (.inr (.inr (.inl (by omega))))]
              clear z4
              go_quiet (fail)
              clear c2 c3 w2 w3 w4 w5
              have HBe := Lib.hid ((show (wA.drewN nq).heap[w.heap.size]? = _ from HBA.out))
              have hb2 := setRow_at zeros HBe.out
              have B2 := Lib.hid (below_setRow (below_drewN BA.out nq) (Nat.le_refl _) zeros)
              go_wp2_with (refine wpList_store_block rfl 26 (.tmp 2) (.tmp 51) rfl w.heap.size zeros rfl rfl zeros _ HBe.out (by kernel_rfl) rfl (by kernel_rfl) ?_)
              generalize World.setRow _ w.heap.size zeros = w2 at *
              go_wp2_with fail
              have hcell := cell_of_block hb2
              unfold zeros at hcell
              exact bodyPost_ret (v := .tuple #[.agg (hv noHd none 0), .slice none 0 0, .int .i64 53]) (by simp [results, Try.results18, go_sem, hcell, hv, noHd]) rfl (ReadMade.no HF2 (by decide) B2.out)
      · have h4' : ((at0 l 0 / 16) != 4) = true := by rw [bne_iff_ne]; exact h4
        have HF : fault l = 52 := by rw [fault, if_neg h20, if_pos h4]
        clear h4
        go_enter Try.func18, Try.ntmps18
        go_upto_region 1 with fail
        clear hwA
        have HBe := Lib.hid (HBA.out)
        have hb2 := setRow_at zeros HBe.out
        have B2 := Lib.hid (below_setRow (BA.out) (Nat.le_refl _) zeros)
        go_wp2_with (refine wpList_store_block rfl 26 (.tmp 2) (.tmp 16) rfl w.heap.size zeros rfl rfl zeros _ HBe.out (by kernel_rfl) rfl (by kernel_rfl) ?_)
        generalize World.setRow _ w.heap.size zeros = w2 at *
        go_wp2_with fail
        have hcell := cell_of_block hb2
        unfold zeros at hcell
        exact bodyPost_ret (v := .tuple #[.agg (hv noHd none 0), .slice none 0 0, .int .i64 52]) (by simp [results, Try.results18, go_sem, hcell, hv, noHd]) rfl (ReadMade.no HF (by decide) B2.out)
end Go.Proofs.Ytjembpchgemhnaa.Head
