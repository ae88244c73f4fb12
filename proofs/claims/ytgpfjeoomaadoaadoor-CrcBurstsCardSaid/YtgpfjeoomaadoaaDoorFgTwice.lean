/- The walk of the law CrcTwice of floodgate's crc layer. Conditions: the table of de Bruijn's words is laid. -/
import Derived.Test.YtgpfjeoomaadoaaDoorFgBurst1
import Derived.Test.YtgpfjeoomaadoaaDoorFgCrcOpen0
set_option linter.unusedVariables false
set_option linter.unusedSimpArgs false
namespace Go.Proofs.YtgpfjeoomaadoaaDoor.Crc
open Go.RowKit Go.Proofs.YtgpfjeoomaadoaaDoor.Fg

/-- Bytes that a Burst has left. -/
def BWord (l r : List Int) (u : Value) (w : World) : Prop := ∃ A c, u = .slice A l.length c ∧ Fg.Src w A l.length c (bv r)
theorem bWord_stand {l r : List Int} {I : World → Prop} : ∀ (u : Value) (w w' : World), BWord l r u w → I w → Below w.heap.size w w' → BWord l r u w' := by
  rintro u w w' ⟨A, c, h1, h2⟩ _ hb
  exact ⟨A, c, h1, h2.same fun ad had hne => hb.block _ (h2.lt had hne)⟩
set_option maxRecDepth 100000 in
set_option maxHeartbeats 1000000 in
theorem twice_any (l : List Int) (hb : Small l) (A : Option Addr) (c : Nat) (at_ : Int) (hat : -9223372036854775808 ≤ at_ ∧ at_ ≤ 9223372036854775807) (m : BitVec 32) (W : World) (hs : Fg.Src W A l.length c (bv l)) (hT : TabW W) :
    Calls Tryd.prog 4 #[.slice A l.length c, .int .i64 at_, .int .u32 m.toNat] W fun e w' => e = .returned (.bool true) ∧ Below W.heap.size W w' := by
  have HB := Lib.hid hb
  have HT := Lib.hid hT
  have HAT := Lib.hid hat
  have SA : Hid (∀ w', Below W.heap.size W w' → Fg.Src w' A l.length c (bv l)) := Lib.hid (fun w' hb => hs.same fun ad had hne => hb.block _ (hs.lt had hne))
  have SL : Hid (∀ (A : Option Addr) (c : Nat) (w' : World), Fg.Src w' A l.length c (bv l) → (convert 22 9 (.slice A l.length c)).run Tryd.prog w' = .ok (.string (strOfNums l)) w') := Lib.hid (fun A c w' hs2 => str_run _ _ _ _ hs2)
  clear hb hs hT hat
  go_enter Tryd.func4, Tryd.ntmps4
  go_wp2_with fail
  refine (alive_any W).mono ?_
  rintro e w0 ⟨rfl, hb0⟩
  have HB0 := Lib.hid hb0
  clear hb0
  by_cases h1 : 500 < (l.length : Int)
  · go_wp2_with fail
    go_ret
    exact ⟨rfl, HB0.out⟩
  · go_upto_region 5 with fail
    apply wp_region_words (fun w w' => Below w.heap.size w w') (fun w' => Below W.heap.size W w')
      [isVal _, isVal _, isVal _, BWord l (burst l at_ m), isVal _, isVal _, BWord l l, isVal (.string (strOfNums l)), isVal _, isVal (.string (strOfNums l)), isVal _, isVal _]
      [[], [], [], [0, 1, 2], [], [], [3, 4, 5], [6], [], [8], [7, 9], [10]] [0, 1, 2, 3, 4, 5, 6, 7, 8, 9, 10, 11] (by kernel_rfl) (by kernel_rfl) ?hF ?stand ?hI ?steps ?fin
    case hF => intro v; simp [fillFrom, Act.put]; rfl
    case stand =>
      repeat' (first | exact trivial | (refine And.intro ?_ ?_))
      all_goals first | exact bWord_stand | (intro u w w' h _ _; exact h)
    case hI => exact below_dr HB0.out
    case steps =>
      refine And.intro ?_ ?_
      · intro v w' hI hd K hK
        simp only [allOf, word, List.getD_cons_zero, List.getD_cons_succ, isVal, and_true, true_and] at hd
        have HK := Lib.hid hK
        clear hK
        go_simp
        exact HK.out _ _ rfl hI (Below.refl _ _)
      refine And.intro ?_ ?_
      · intro v w' hI hd K hK
        simp only [allOf, word, List.getD_cons_zero, List.getD_cons_succ, isVal, and_true, true_and] at hd
        have HK := Lib.hid hK
        clear hK
        go_simp
        exact HK.out _ _ rfl hI (Below.refl _ _)
      refine And.intro ?_ ?_
      · intro v w' hI hd K hK
        simp only [allOf, word, List.getD_cons_zero, List.getD_cons_succ, isVal, and_true, true_and] at hd
        have HK := Lib.hid hK
        clear hK
        go_simp
        exact HK.out _ _ rfl hI (Below.refl _ _)
      refine And.intro ?_ ?_
      · intro v w' hI hd K hK
        simp only [allOf, word, List.getD_cons_zero, List.getD_cons_succ, isVal, and_true, true_and] at hd
        try simp only [hd] at hK
        have HK := Lib.hid hK
        clear hK
        go_simp
        refine (burst_any l HB.out (by omega) at_ HAT.out m A c _ (SA.out _ hI) (HT.out.below hI)).mono ?_
        rintro e w5 ⟨A5, c5, rfl, ho, hb⟩
        exact HK.out _ _ ⟨A5, c5, rfl, Fg.Src.of_own ho⟩ (hI.trans (hb.mono hI.size)) hb
      refine And.intro ?_ ?_
      · intro v w' hI hd K hK
        simp only [allOf, word, List.getD_cons_zero, List.getD_cons_succ, isVal, and_true, true_and] at hd
        have HK := Lib.hid hK
        clear hK
        go_simp
        exact HK.out _ _ rfl hI (Below.refl _ _)
      refine And.intro ?_ ?_
      · intro v w' hI hd K hK
        simp only [allOf, word, List.getD_cons_zero, List.getD_cons_succ, isVal, and_true, true_and] at hd
        have HK := Lib.hid hK
        clear hK
        go_simp
        exact HK.out _ _ rfl hI (Below.refl _ _)
      refine And.intro ?_ ?_
      · intro v w' hI hd K hK
        simp only [allOf, word, List.getD_cons_zero, List.getD_cons_succ, isVal, and_true, true_and] at hd
        obtain ⟨⟨A5, c5, h3, s3⟩, h4, h5⟩ := hd
        simp only [h3, h4, h5] at hK
        have BS := Lib.hid (burst_any (burst l at_ m) (burst_small HB.out at_ m) (by rw [burst_length]; omega) at_ HAT.out m A5 c5 w' (by rw [burst_length]; exact s3) (HT.out.below hI))
        rw [burst_burst HB.out, burst_length] at BS
        clear s3
        have HK := Lib.hid hK
        clear hK
        go_simp
        refine BS.out.mono ?_
        rintro e w5 ⟨A6, c6, rfl, ho, hb⟩
        rw [burst_length] at ho ⊢
        exact HK.out _ _ ⟨A6, c6, rfl, Fg.Src.of_own ho⟩ (hI.trans (hb.mono hI.size)) hb
      refine And.intro ?_ ?_
      · intro v w' hI hd K hK
        simp only [allOf, word, List.getD_cons_zero, List.getD_cons_succ, isVal, and_true, true_and] at hd
        obtain ⟨A5, c5, h1, hs⟩ := hd
        simp only [h1] at hK
        have tv := SL.out A5 c5 w' hs
        clear hs
        have HK := Lib.hid hK
        clear hK
        go_simp
        exact HK.out _ _ rfl hI (Below.refl _ _)
      refine And.intro ?_ ?_
      · intro v w' hI hd K hK
        simp only [allOf, word, List.getD_cons_zero, List.getD_cons_succ, isVal, and_true, true_and] at hd
        have HK := Lib.hid hK
        clear hK
        go_simp
        exact HK.out _ _ rfl hI (Below.refl _ _)
      refine And.intro ?_ ?_
      · intro v w' hI hd K hK
        simp only [allOf, word, List.getD_cons_zero, List.getD_cons_succ, isVal, and_true, true_and] at hd
        simp only [hd] at hK
        have tv := SL.out A c w' (SA.out w' hI)
        have HK := Lib.hid hK
        clear hK
        go_simp
        exact HK.out _ _ rfl hI (Below.refl _ _)
      refine And.intro ?_ ?_
      · intro v w' hI hd K hK
        simp only [allOf, word, List.getD_cons_zero, List.getD_cons_succ, isVal, and_true, true_and] at hd
        try simp only [hd] at hK
        have HK := Lib.hid hK
        clear hK
        go_simp
        exact HK.out _ _ rfl hI (Below.refl _ _)
      refine And.intro ?_ ?_
      · intro v w' hI hd K hK
        simp only [allOf, word, List.getD_cons_zero, List.getD_cons_succ, isVal, and_true, true_and] at hd
        try simp only [hd] at hK
        have HK := Lib.hid hK
        clear hK
        go_simp
        exact HK.out _ _ rfl hI (Below.refl _ _)
      exact trivial
    intro v w9 hI hd
    simp only [allOf, word, List.getD_cons_zero, List.getD_cons_succ, isVal, and_true, true_and] at hd
    obtain ⟨h0, h1, h2, -, h4, h5, -, h7, h8, h9, h10, h11⟩ := hd
    simp only [h0, h1, h2, h4, h5, h7, h8, h9, h10, h11]
    clear h0 h1 h2 h4 h5 h7 h8 h9 h10 h11
    go_wp2_with fail
    go_ret
    exact ⟨rfl, hI⟩
end Go.Proofs.YtgpfjeoomaadoaaDoor.Crc
