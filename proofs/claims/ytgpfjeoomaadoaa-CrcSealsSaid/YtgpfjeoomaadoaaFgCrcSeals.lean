/- The law CrcSeals of floodgate's crc layer: any bytes and their sum. There are no conditions. -/
import Derived.Test.YtgpfjeoomaadoaaFgCrcOpen
import Derived.Test.YtgpfjeoomaadoaaFgWords
namespace Go.Proofs.Ytgpfjeoomaadoaa.Crc
open Go.RowKit Go.Proofs.Ytgpfjeoomaadoaa.Fg Go.ChangeShapes Go.WideShapes Go.ChangeAt

set_option linter.unusedSimpArgs false in
set_option maxRecDepth 100000 in
set_option maxHeartbeats 1000000 in
theorem seals_any (l : List Int) (hb : Small l) (A : Option Addr) (c : Nat) (W : World) (hs : Src W A l.length c (bv l)) :
    Calls Try.prog 5 #[.slice A l.length c] W fun e w' => e = .returned (.bool true) ∧ Below W.heap.size W w' := by
  have HB := Lib.hid hb
  have SA : Hid (∀ w', Below W.heap.size W w' → Src w' A l.length c (bv l)) := Lib.hid (fun w' hb => hs.same fun ad had hne => hb.block _ (hs.lt had hne))
  clear hb hs
  go_enter Try.func5, Try.ntmps5
  go_wp2_with fail
  refine (alive_any W).mono ?_
  rintro e w0 ⟨rfl, hb0⟩
  have hs0 := hb0.size
  have HB0 := Lib.hid hb0
  clear hb0
  by_cases h1 : 500 < (l.length : Int)
  · go_wp2_with fail
    go_ret
    exact ⟨rfl, HB0.out⟩
  · go_wp2_with (at_builtin; refine wpList_append_any rfl (.tmp 13) (.tmp 14) 22 rfl W.heap.size 5 (.int .u8 0) 1 1 Try.underlying22 info_u8 rfl (by decide) (by decide) (.slice (some ⟨w0.heap.size, 0, none⟩) 0 0) 0 [] rfl ?a1 A l.length c (bv l) rfl ?a2 ?a3 (bv_one l) ?a5 ?a6 ?a7)
    case a1 => exact World.ownsRow_made w0 #[] 0 hs0 (Nat.zero_le _) rfl
    case a2 => exact SA.out _ (HB0.out.alloc hs0 _)
    case a3 => simp [bv]
    case a5 => omega
    case a6 => simp; omega
    intro v1 w1 hown1 hgr1 _ _
    have b1 : Below W.heap.size W w1 := (HB0.out.alloc hs0 (.cells #[] 5)).grown hgr1 (by simp; omega) (by simp [Value.ownBlock]; omega)
    have HB1 := Lib.hid b1
    obtain ⟨A1, c1, rfl, -⟩ := own_form hown1
    have SO : Hid (∀ w', Below w1.heap.size w1 w' → Src w' A1 l.length c1 (bv l)) := Lib.hid (fun w' hb => (Src.of_own hown1).same fun ad had hne => hb.block _ ((Src.of_own hown1).lt had hne))
    clear b1 hown1 hgr1
    have hs1 := HB1.out.size
    go_wp2_with fail
    refine (open_any l HB.out (by omega) A1 c1 w1 (SO.out _ (Below.refl _ _))).mono ?_
    rintro e w2 ⟨A2, c2, rfl, ho2, hb2⟩
    have HO2 := Lib.hid ho2
    have HB2 := Lib.hid hb2
    clear ho2 hb2
    go_wp2_with fail
    refine (refopen_any l HB.out (by omega) A c w2 (SA.out _ (HB1.out.trans (HB2.out.mono hs1)))).mono ?_
    rintro e w3 ⟨A3, c3, rfl, ho3, hb3⟩
    have HO3 := Lib.hid ho3
    have HB3 := Lib.hid hb3
    clear ho3 hb3
    go_wp2_with fail
    have SSTR : Hid (∀ (A : Option Addr) (c : Nat) (w' : World), Src w' A (l.length + 4) c (bv (sealed l)) → (convert 22 9 (.slice A (l.length + 4) c)).run Try.prog w' = .ok (.string (strOfNums (sealed l))) w') := Lib.hid (fun A c w' hs2 => by
      rw [← sealed_length] at hs2 ⊢
      exact str_run _ _ _ _ hs2)
    have T2 : Hid (∀ w', Below w2.heap.size w2 w' → (convert 22 9 (.slice A2 (opened l).length c2)).run Try.prog w' = .ok (.string (strOfNums (opened l))) w') := Lib.hid (fun w' hb => str_run _ _ _ _ ((Src.of_own HO2.out).same fun ad had hne => hb.block _ ((Src.of_own HO2.out).lt had hne)))
    have T3 : Hid (∀ w', Below w3.heap.size w3 w' → (convert 22 9 (.slice A3 (opened l).length c3)).run Try.prog w' = .ok (.string (strOfNums (opened l))) w') := Lib.hid (fun w' hb => str_run _ _ _ _ ((Src.of_own HO3.out).same fun ad had hne => hb.block _ ((Src.of_own HO3.out).lt had hne)))
    have TO : Hid (∀ w', Below w1.heap.size w1 w' → (convert 22 9 (.slice A1 l.length c1)).run Try.prog w' = .ok (.string (strOfNums l)) w') := Lib.hid (fun w' hb => str_run _ _ _ _ (SO.out w' hb))
    have TA : Hid (∀ w', Below W.heap.size W w' → (convert 22 9 (.slice A l.length c)).run Try.prog w' = .ok (.string (strOfNums l)) w') := Lib.hid (fun w' hb => str_run _ _ _ _ (SA.out w' hb))
    apply wp_region_words (fun w w' => Below w.heap.size w w') (fun w' => Below W.heap.size W w' ∧ Below w1.heap.size w1 w' ∧ Below w2.heap.size w2 w' ∧ Below w3.heap.size w3 w')
      [isVal _, SealWord l l.length, isVal (.string (strOfNums (sealed l))), isVal _, SealWord l l.length, isVal (.string (strOfNums (sealed l))), isVal _, isVal _, isVal _, isVal (.string (strOfNums (opened l))), isVal _, isVal (.string (strOfNums (opened l))), isVal _, isVal _, isVal _, isVal _, isVal _, isVal _, isVal _, isVal _, isVal _, isVal (.string (strOfNums l)), isVal _, isVal (.string (strOfNums l)), isVal _, isVal _, isVal _]
      [[], [0], [1], [], [3], [4], [2, 5], [6], [7], [7, 8], [7], [7, 10], [7, 9, 11], [7, 12], [13], [14], [14], [14, 15, 16], [14, 17], [18], [19], [19, 20], [19], [19, 22], [19, 21, 23], [19, 24], [25]] [0, 1, 2, 3, 4, 5, 6, 7, 8, 9, 10, 11, 12, 13, 14, 15, 16, 17, 18, 19, 20, 21, 22, 23, 24, 25, 26] (by kernel_rfl) (by kernel_rfl) ?hF ?stand ?hI ?steps ?fin
    case hF => intro v; simp [fillFrom, Act.put]; rfl
    case stand =>
      repeat' (first | exact trivial | (refine And.intro ?_ ?_))
      all_goals first | exact sealWord_stand | (intro u w w' h _ _; exact h)
    case hI => exact ⟨below_dr (HB1.out.trans ((HB2.out.trans (HB3.out.mono HB2.out.size)).mono HB1.out.size)), below_dr (HB2.out.trans (HB3.out.mono HB2.out.size)), below_dr HB3.out, below_dr (Below.refl _ _)⟩
    case steps =>
      refine And.intro ?_ ?_
      · intro v w' hI hd K hK
        simp only [allOf, word, List.getD_cons_zero, List.getD_cons_succ, isVal, and_true, true_and] at hd
        have HK := Lib.hid hK
        clear hK
        go_simp
        exact HK.out _ _ rfl hI (Below.refl _ _)
      refine And.intro ?_ ?_
      · intro v w' hI hd K hK
        simp only [allOf, word, List.getD_cons_zero, List.getD_cons_succ, isVal, and_true, true_and] at hd
        try simp only [hd] at hK
        have HK := Lib.hid hK
        clear hK
        go_simp
        refine (seal_any l HB.out (by omega) A1 c1 _ (SO.out _ hI.2.1)).mono ?_
        rintro e w5 ⟨A5, c5, rfl, ho, hb⟩
        exact HK.out _ _ ⟨A5, c5, rfl, Src.of_own ho⟩ ⟨hI.1.trans (hb.mono hI.1.size), hI.2.1.trans (hb.mono hI.2.1.size), hI.2.2.1.trans (hb.mono hI.2.2.1.size), hI.2.2.2.trans (hb.mono hI.2.2.2.size)⟩ hb
      refine And.intro ?_ ?_
      · intro v w' hI hd K hK
        simp only [allOf, word, List.getD_cons_zero, List.getD_cons_succ, isVal, and_true, true_and] at hd
        obtain ⟨A5, c5, h1, hs⟩ := hd
        simp only [h1] at hK
        have tv := SSTR.out A5 c5 w' hs
        clear hs
        have HK := Lib.hid hK
        clear hK
        go_simp
        exact HK.out _ _ rfl hI (Below.refl _ _)
      refine And.intro ?_ ?_
      · intro v w' hI hd K hK
        simp only [allOf, word, List.getD_cons_zero, List.getD_cons_succ, isVal, and_true, true_and] at hd
        have HK := Lib.hid hK
        clear hK
        go_simp
        exact HK.out _ _ rfl hI (Below.refl _ _)
      refine And.intro ?_ ?_
      · intro v w' hI hd K hK
        simp only [allOf, word, List.getD_cons_zero, List.getD_cons_succ, isVal, and_true, true_and] at hd
        try simp only [hd] at hK
        have HK := Lib.hid hK
        clear hK
        go_simp
        refine (refseal_any l HB.out (by omega) A c _ (SA.out _ hI.1)).mono ?_
        rintro e w5 ⟨A5, c5, rfl, ho, hb⟩
        exact HK.out _ _ ⟨A5, c5, rfl, Src.of_own ho⟩ ⟨hI.1.trans (hb.mono hI.1.size), hI.2.1.trans (hb.mono hI.2.1.size), hI.2.2.1.trans (hb.mono hI.2.2.1.size), hI.2.2.2.trans (hb.mono hI.2.2.2.size)⟩ hb
      refine And.intro ?_ ?_
      · intro v w' hI hd K hK
        simp only [allOf, word, List.getD_cons_zero, List.getD_cons_succ, isVal, and_true, true_and] at hd
        obtain ⟨A5, c5, h4, hs⟩ := hd
        simp only [h4] at hK
        have tv := SSTR.out A5 c5 w' hs
        clear hs
        have HK := Lib.hid hK
        clear hK
        go_simp
        exact HK.out _ _ rfl hI (Below.refl _ _)
      refine And.intro ?_ ?_
      · intro v w' hI hd K hK
        simp only [allOf, word, List.getD_cons_zero, List.getD_cons_succ, isVal, and_true, true_and] at hd
        try simp only [hd] at hK
        have HK := Lib.hid hK
        clear hK
        go_simp
        exact HK.out _ _ rfl hI (Below.refl _ _)
      refine And.intro ?_ ?_
      · intro v w' hI hd K hK
        simp only [allOf, word, List.getD_cons_zero, List.getD_cons_succ, isVal, and_true, true_and] at hd
        try simp only [hd] at hK
        have HK := Lib.hid hK
        clear hK
        go_simp
        exact HK.out _ _ rfl hI (Below.refl _ _)
      refine And.intro ?_ ?_
      · intro v w' hI hd K hK
        simp only [allOf, word, List.getD_cons_zero, List.getD_cons_succ, isVal, and_true, true_and] at hd
        try simp only [hd] at hK
        have HK := Lib.hid hK
        clear hK
        go_simp
        exact HK.out _ _ rfl hI (Below.refl _ _)
      refine And.intro ?_ ?_
      · intro v w' hI hd K hK
        simp only [allOf, word, List.getD_cons_zero, List.getD_cons_succ, isVal, and_true, true_and] at hd
        simp only [hd] at hK
        have tv := T2.out w' hI.2.2.1
        have HK := Lib.hid hK
        clear hK
        go_simp
        exact HK.out _ _ rfl hI (Below.refl _ _)
      refine And.intro ?_ ?_
      · intro v w' hI hd K hK
        simp only [allOf, word, List.getD_cons_zero, List.getD_cons_succ, isVal, and_true, true_and] at hd
        try simp only [hd] at hK
        have HK := Lib.hid hK
        clear hK
        go_simp
        exact HK.out _ _ rfl hI (Below.refl _ _)
      refine And.intro ?_ ?_
      · intro v w' hI hd K hK
        simp only [allOf, word, List.getD_cons_zero, List.getD_cons_succ, isVal, and_true, true_and] at hd
        simp only [hd] at hK
        have tv := T3.out w' hI.2.2.2
        have HK := Lib.hid hK
        clear hK
        go_simp
        exact HK.out _ _ rfl hI (Below.refl _ _)
      refine And.intro ?_ ?_
      · intro v w' hI hd K hK
        simp only [allOf, word, List.getD_cons_zero, List.getD_cons_succ, isVal, and_true, true_and] at hd
        try simp only [hd] at hK
        have HK := Lib.hid hK
        clear hK
        go_simp
        exact HK.out _ _ rfl hI (Below.refl _ _)
      refine And.intro ?_ ?_
      · intro v w' hI hd K hK
        simp only [allOf, word, List.getD_cons_zero, List.getD_cons_succ, isVal, and_true, true_and] at hd
        try simp only [hd] at hK
        have HK := Lib.hid hK
        clear hK
        go_simp
        exact HK.out _ _ rfl hI (Below.refl _ _)
      refine And.intro ?_ ?_
      · intro v w' hI hd K hK
        simp only [allOf, word, List.getD_cons_zero, List.getD_cons_succ, isVal, and_true, true_and] at hd
        try simp only [hd] at hK
        have HK := Lib.hid hK
        clear hK
        go_simp
        exact HK.out _ _ rfl hI (Below.refl _ _)
      refine And.intro ?_ ?_
      · intro v w' hI hd K hK
        simp only [allOf, word, List.getD_cons_zero, List.getD_cons_succ, isVal, and_true, true_and] at hd
        try simp only [hd] at hK
        have HK := Lib.hid hK
        clear hK
        go_simp
        exact HK.out _ _ rfl hI (Below.refl _ _)
      refine And.intro ?_ ?_
      · intro v w' hI hd K hK
        simp only [allOf, word, List.getD_cons_zero, List.getD_cons_succ, isVal, and_true, true_and] at hd
        try simp only [hd] at hK
        have HK := Lib.hid hK
        clear hK
        go_simp
        exact HK.out _ _ rfl hI (Below.refl _ _)
      refine And.intro ?_ ?_
      · intro v w' hI hd K hK
        simp only [allOf, word, List.getD_cons_zero, List.getD_cons_succ, isVal, and_true, true_and] at hd
        try simp only [hd] at hK
        have HK := Lib.hid hK
        clear hK
        go_simp
        exact HK.out _ _ rfl hI (Below.refl _ _)
      refine And.intro ?_ ?_
      · intro v w' hI hd K hK
        simp only [allOf, word, List.getD_cons_zero, List.getD_cons_succ, isVal, and_true, true_and] at hd
        try simp only [hd] at hK
        have HK := Lib.hid hK
        clear hK
        go_simp
        exact HK.out _ _ rfl hI (Below.refl _ _)
      refine And.intro ?_ ?_
      · intro v w' hI hd K hK
        simp only [allOf, word, List.getD_cons_zero, List.getD_cons_succ, isVal, and_true, true_and] at hd
        try simp only [hd] at hK
        have HK := Lib.hid hK
        clear hK
        go_simp
        exact HK.out _ _ rfl hI (Below.refl _ _)
      refine And.intro ?_ ?_
      · intro v w' hI hd K hK
        simp only [allOf, word, List.getD_cons_zero, List.getD_cons_succ, isVal, and_true, true_and] at hd
        try simp only [hd] at hK
        have HK := Lib.hid hK
        clear hK
        go_simp
        exact HK.out _ _ rfl hI (Below.refl _ _)
      refine And.intro ?_ ?_
      · intro v w' hI hd K hK
        simp only [allOf, word, List.getD_cons_zero, List.getD_cons_succ, isVal, and_true, true_and] at hd
        simp only [hd] at hK
        have tv := TO.out w' hI.2.1
        have HK := Lib.hid hK
        clear hK
        go_simp
        exact HK.out _ _ rfl hI (Below.refl _ _)
      refine And.intro ?_ ?_
      · intro v w' hI hd K hK
        simp only [allOf, word, List.getD_cons_zero, List.getD_cons_succ, isVal, and_true, true_and] at hd
        try simp only [hd] at hK
        have HK := Lib.hid hK
        clear hK
        go_simp
        exact HK.out _ _ rfl hI (Below.refl _ _)
      refine And.intro ?_ ?_
      · intro v w' hI hd K hK
        simp only [allOf, word, List.getD_cons_zero, List.getD_cons_succ, isVal, and_true, true_and] at hd
        simp only [hd] at hK
        have tv := TA.out w' hI.1
        have HK := Lib.hid hK
        clear hK
        go_simp
        exact HK.out _ _ rfl hI (Below.refl _ _)
      refine And.intro ?_ ?_
      · intro v w' hI hd K hK
        simp only [allOf, word, List.getD_cons_zero, List.getD_cons_succ, isVal, and_true, true_and] at hd
        try simp only [hd] at hK
        have HK := Lib.hid hK
        clear hK
        go_simp
        exact HK.out _ _ rfl hI (Below.refl _ _)
      refine And.intro ?_ ?_
      · intro v w' hI hd K hK
        simp only [allOf, word, List.getD_cons_zero, List.getD_cons_succ, isVal, and_true, true_and] at hd
        try simp only [hd] at hK
        have HK := Lib.hid hK
        clear hK
        go_simp
        exact HK.out _ _ rfl hI (Below.refl _ _)
      refine And.intro ?_ ?_
      · intro v w' hI hd K hK
        simp only [allOf, word, List.getD_cons_zero, List.getD_cons_succ, isVal, and_true, true_and] at hd
        try simp only [hd] at hK
        have HK := Lib.hid hK
        clear hK
        go_simp
        exact HK.out _ _ rfl hI (Below.refl _ _)
      exact trivial
    intro v w4 hI hd
    simp only [allOf, word, List.getD_cons_zero, List.getD_cons_succ, isVal, and_true, true_and] at hd
    obtain ⟨h0, ⟨A5, c5, h1, -⟩, h2, h3, ⟨A6, c6, h4, -⟩, h5, h6, h7, h8, h9, h10, h11, h12, h13, h14, h15, h16, h17, h18, h19, h20, h21, h22, h23, h24, h25, h26⟩ := hd
    simp only [h0, h1, h2, h3, h4, h5, h6, h7, h8, h9, h10, h11, h12, h13, h14, h15, h16, h17, h18, h19, h20, h21, h22, h23, h24, h25, h26]
    clear h0 h1 h2 h3 h4 h5 h6 h7 h8 h9 h10 h11 h12 h13 h14 h15 h16 h17 h18 h19 h20 h21 h22 h23 h24 h25 h26
    go_wp2_with fail
    go_ret
    exact ⟨rfl, hI.1⟩

set_option maxRecDepth 100000 in
theorem seals_lifted (os : Os) (started : os.Started) (H : Type) (enc : TypeId × Value → H) :
    ReturnsInHanded {} Try.checked os 5 .any (Rows.crcSealsSpec.pre6 enc Try.prog Try.f5 Rows.crcSealsRow.domain false) (Rows.crcSealsSpec.post enc Try.prog Try.f5 false true false false) := by
  refine law_lifted (C := Try.checked) laidOut own started (by kernel_rfl) Try.func5 rfl Try.underlying4 (by kernel_rfl) rfl
    (ChangeSpec.witness6 (enc := enc) (C := Try.checked) false ⟨#[], #[.slice none 0 0], []⟩ 8 (by kernel_rfl) (by kernel_rfl) (by kernel_rfl) (by kernel_rfl)) ?_
  intro W base args ds p hval0 hA0 _ hsz0
  have hval : ∀ (j : Nat) t v, Try.f5.params[j]? = some t → args[j]? = some v → Value.okWide Try.prog W .any base t v := hval0
  have hA : DataW.TrodAll enc Try.prog W 0 (fun _ => true) true Try.f5.params.toList args ds p := hA0
  have hsz : (DataW.weightsEach Try.prog Try.f5.params.toList ds).all (· ≤ reachBytes) = true := hsz0
  rw [Try.params5] at hA hval hsz
  obtain ⟨v0, vs0, d0, ds0, p0, q0, rfl, rfl, rfl, h0, r0⟩ := trodAll_cons hA
  obtain ⟨rfl, rfl, rfl⟩ := trodAll_nil r0
  obtain ⟨A, c, la, rfl, sa, ra, ba⟩ := open_bytes_arg (hval 0 _ v0 rfl rfl) h0 (fun n hn => of_decide_eq_true (List.all_eq_true.1 hsz n (DataW.weights_mem_each (j := 0) rfl rfl n hn)))
  exact ⟨rfl, seals_any la ba A c W sa⟩
end Go.Proofs.Ytgpfjeoomaadoaa.Crc
namespace Go.Proofs.Ytgpfjeoomaadoaa
/-- The row, under a short name, for the claim. -/
theorem crcSeals_holds : Rows.CrcSealsSaid :=
  OpenClaim.holds_of_wide 5 Try.f5 rfl rfl rfl rfl rfl rfl rfl ⟨rfl, rfl, rfl, rfl, rfl⟩ rfl rfl rfl rfl rfl (by kernel_rfl) Try.func5 (by kernel_rfl)
    (of_decide_eq_true (by kernel_rfl)) (by unfold Func.isWrapper; first | (rw [if_pos (by decide +kernel)]; kernel_rfl) | (rw [if_neg (by decide +kernel)]; exact ⟨rfl, rfl⟩))
    (fun os started H enc _ => Crc.seals_lifted os started H enc)
#print axioms crcSeals_holds
end Go.Proofs.Ytgpfjeoomaadoaa
