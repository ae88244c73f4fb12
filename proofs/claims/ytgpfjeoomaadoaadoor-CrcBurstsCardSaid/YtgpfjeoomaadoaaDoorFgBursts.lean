/- The walk of the law CrcBursts of floodgate's crc layer. Conditions: the table of de Bruijn's words is laid. -/
import Derived.Test.YtgpfjeoomaadoaaDoorFgTwice
import Derived.Test.YtgpfjeoomaadoaaDoorFgRefBurst
set_option linter.unusedVariables false
set_option linter.unusedSimpArgs false
namespace Go.Proofs.YtgpfjeoomaadoaaDoor.Crc
open Go.RowKit Go.Proofs.YtgpfjeoomaadoaaDoor.Fg

set_option maxRecDepth 100000 in
set_option maxHeartbeats 2000000 in
theorem bursts_any (l : List Int) (hb : Small l) (A : Option Addr) (c : Nat) (at_ : Int) (hat : -9223372036854775808 ≤ at_ ∧ at_ ≤ 9223372036854775807) (m : BitVec 32) (W : World) (hs : Fg.Src W A l.length c (bv l)) (hT : TabW W) :
    Calls Tryd.prog 3 #[.slice A l.length c, .int .i64 at_, .int .u32 m.toNat] W fun e w' => e = .returned (.bool true) ∧ Below W.heap.size W w' := by
  have HB := Lib.hid hb
  have HT := Lib.hid hT
  have SA : Hid (∀ w', Below W.heap.size W w' → Fg.Src w' A l.length c (bv l)) := Lib.hid (fun w' hb => hs.same fun ad had hne => hb.block _ (hs.lt had hne))
  have SL : Hid (∀ (A : Option Addr) (c : Nat) (w' : World), Fg.Src w' A l.length c (bv l) → (convert 22 9 (.slice A l.length c)).run Tryd.prog w' = .ok (.string (strOfNums l)) w') := Lib.hid (fun A c w' hs2 => str_run _ _ _ _ hs2)
  have HAT := Lib.hid hat
  clear hb hs hT hat
  go_enter Tryd.func3, Tryd.ntmps3
  go_wp2_with fail
  refine (alive_any W).mono ?_
  rintro e w0 ⟨rfl, hb0⟩
  have hs0 := hb0.size
  have HB0 := Lib.hid hb0
  clear hb0
  by_cases h1 : 500 < (l.length : Int)
  · go_wp2_with fail
    go_ret
    exact ⟨rfl, HB0.out⟩
  · have BG : Hid (∀ A c w', Fg.Src w' A l.length c (bv l) → TabW w' → Calls Tryd.prog 7 #[.slice A l.length c, .int .i64 at_, .int .u32 m.toNat] w' (BurstMade l (burst l at_ m) w')) := Lib.hid (fun A c w' h h2 => burst_any l HB.out (by omega) at_ HAT.out m A c w' h h2)
    have BR : Hid (∀ A c w', Fg.Src w' A l.length c (bv l) → Calls Tryd.prog 8 #[.slice A l.length c, .int .i64 at_, .int .u32 m.toNat] w' (BurstMade l (burst l at_ m) w')) := Lib.hid (fun A c w' h => refburst_any l HB.out (by omega) at_ HAT.out m A c w' h)
    have SB : Hid (∀ (A : Option Addr) (c : Nat) (w' : World), Fg.Src w' A l.length c (bv (burst l at_ m)) → (convert 22 9 (.slice A l.length c)).run Tryd.prog w' = .ok (.string (strOfNums (burst l at_ m))) w') := Lib.hid (fun A c w' hs2 => by
      have := burst_length l at_ m
      rw [← this] at hs2 ⊢
      exact str_run _ _ _ _ hs2)
    generalize burst l at_ m = Bu at *
    go_upto_region 6 with (at_builtin; refine wpList_append_any rfl (.tmp 13) (.tmp 14) 22 rfl W.heap.size 5 (.int .u8 0) 1 1 Tryd.underlying22 info_u8 rfl (by decide) (by decide) (.slice (some ⟨w0.heap.size, 0, none⟩) 0 0) 0 [] rfl ?a1 A l.length c (bv l) rfl ?a2 ?a3 (bv_one l) ?a5 ?a6 ?a7)
    case a1 => exact World.ownsRow_made w0 #[] 0 hs0 (Nat.zero_le _) rfl
    case a2 => exact SA.out _ (HB0.out.alloc hs0 _)
    case a3 => simp [bv]
    case a5 => omega
    case a6 => simp; omega
    intro v1 w1 hown1 hgr1 _ _
    have b1 : Below W.heap.size W w1 := (HB0.out.alloc hs0 (.cells #[] 5)).grown hgr1 (by simp; omega) (by simp [Value.ownBlock]; omega)
    have HB1 := Lib.hid b1
    try simp only [Nat.zero_add, List.nil_append] at hown1
    obtain ⟨A1, c1, rfl, -⟩ := own_form hown1
    have SO : Hid (∀ w', Below w1.heap.size w1 w' → Fg.Src w' A1 l.length c1 (bv l)) := Lib.hid (fun w' hb => (Fg.Src.of_own hown1).same fun ad had hne => hb.block _ ((Fg.Src.of_own hown1).lt had hne))
    clear b1 hown1 hgr1
    go_upto_region 6 with fail
    apply wp_region_words (fun w w' => Below w.heap.size w w') (fun w' => Below W.heap.size W w' ∧ Below w1.heap.size w1 w')
      [isVal _, isVal _, isVal _, BWord l Bu, isVal (.string (strOfNums Bu)), isVal _, isVal _, isVal _, BWord l Bu, isVal (.string (strOfNums Bu)), isVal _, isVal _, isVal _, isVal (.string (strOfNums l)), isVal _, isVal (.string (strOfNums l)), isVal _, isVal _, isVal _]
      [[], [], [], [0, 1, 2], [3], [], [], [], [5, 6, 7], [8], [4, 9], [10], [11], [11, 12], [11], [11, 14], [11, 13, 15], [11, 16], [17]] [0, 1, 2, 3, 4, 5, 6, 7, 8, 9, 10, 11, 12, 13, 14, 15, 16, 17, 18] (by kernel_rfl) (by kernel_rfl) ?hF ?stand ?hI ?steps ?fin
    case hF => intro v; simp [fillFrom, Act.put]; rfl
    case stand =>
      repeat' (first | exact trivial | (refine And.intro ?_ ?_))
      all_goals first | exact bWord_stand | (intro u w w' h _ _; exact h)
    case hI => exact ⟨below_dr HB1.out, below_dr (Below.refl _ _)⟩
    case steps =>
      refine And.intro ?_ ?_
      · intro v w' hI hd K hK
        simp only [allOf, word, List.getD_cons_zero, List.getD_cons_succ, isVal, and_true, true_and] at hd
        have HK := Lib.hid hK
        clear hK
        go_simp
        exact HK.out _ _ rfl hI (Below.refl _ _)
      refine And.intro ?_ ?_
      · intro v w' hI hd K hK
        simp only [allOf, word, List.getD_cons_zero, List.getD_cons_succ, isVal, and_true, true_and] at hd
        have HK := Lib.hid hK
        clear hK
        go_simp
        exact HK.out _ _ rfl hI (Below.refl _ _)
      refine And.intro ?_ ?_
      · intro v w' hI hd K hK
        simp only [allOf, word, List.getD_cons_zero, List.getD_cons_succ, isVal, and_true, true_and] at hd
        have HK := Lib.hid hK
        clear hK
        go_simp
        exact HK.out _ _ rfl hI (Below.refl _ _)
      refine And.intro ?_ ?_
      · intro v w' hI hd K hK
        simp only [allOf, word, List.getD_cons_zero, List.getD_cons_succ, isVal, and_true, true_and] at hd
        try simp only [hd] at hK
        have HK := Lib.hid hK
        clear hK
        go_simp
        refine (BG.out A1 c1 _ (SO.out _ hI.2) (HT.out.below hI.1)).mono ?_
        rintro e w5 ⟨A5, c5, rfl, ho, hb⟩
        exact HK.out _ _ ⟨A5, c5, rfl, Fg.Src.of_own ho⟩ ⟨hI.1.trans (hb.mono hI.1.size), hI.2.trans (hb.mono hI.2.size)⟩ hb
      refine And.intro ?_ ?_
      · intro v w' hI hd K hK
        simp only [allOf, word, List.getD_cons_zero, List.getD_cons_succ, isVal, and_true, true_and] at hd
        obtain ⟨A5, c5, h1, hs⟩ := hd
        simp only [h1] at hK
        have tv := SB.out A5 c5 w' hs
        clear hs
        have HK := Lib.hid hK
        clear hK
        go_simp
        exact HK.out _ _ rfl hI (Below.refl _ _)
      refine And.intro ?_ ?_
      · intro v w' hI hd K hK
        simp only [allOf, word, List.getD_cons_zero, List.getD_cons_succ, isVal, and_true, true_and] at hd
        have HK := Lib.hid hK
        clear hK
        go_simp
        exact HK.out _ _ rfl hI (Below.refl _ _)
      refine And.intro ?_ ?_
      · intro v w' hI hd K hK
        simp only [allOf, word, List.getD_cons_zero, List.getD_cons_succ, isVal, and_true, true_and] at hd
        have HK := Lib.hid hK
        clear hK
        go_simp
        exact HK.out _ _ rfl hI (Below.refl _ _)
      refine And.intro ?_ ?_
      · intro v w' hI hd K hK
        simp only [allOf, word, List.getD_cons_zero, List.getD_cons_succ, isVal, and_true, true_and] at hd
        have HK := Lib.hid hK
        clear hK
        go_simp
        exact HK.out _ _ rfl hI (Below.refl _ _)
      refine And.intro ?_ ?_
      · intro v w' hI hd K hK
        simp only [allOf, word, List.getD_cons_zero, List.getD_cons_succ, isVal, and_true, true_and] at hd
        try simp only [hd] at hK
        have HK := Lib.hid hK
        clear hK
        go_simp
        refine (BR.out A c _ (SA.out _ hI.1)).mono ?_
        rintro e w5 ⟨A5, c5, rfl, ho, hb⟩
        exact HK.out _ _ ⟨A5, c5, rfl, Fg.Src.of_own ho⟩ ⟨hI.1.trans (hb.mono hI.1.size), hI.2.trans (hb.mono hI.2.size)⟩ hb
      refine And.intro ?_ ?_
      · intro v w' hI hd K hK
        simp only [allOf, word, List.getD_cons_zero, List.getD_cons_succ, isVal, and_true, true_and] at hd
        obtain ⟨A5, c5, h1, hs⟩ := hd
        simp only [h1] at hK
        have tv := SB.out A5 c5 w' hs
        clear hs
        have HK := Lib.hid hK
        clear hK
        go_simp
        exact HK.out _ _ rfl hI (Below.refl _ _)
      refine And.intro ?_ ?_
      · intro v w' hI hd K hK
        simp only [allOf, word, List.getD_cons_zero, List.getD_cons_succ, isVal, and_true, true_and] at hd
        try simp only [hd] at hK
        have HK := Lib.hid hK
        clear hK
        go_simp
        exact HK.out _ _ rfl hI (Below.refl _ _)
      refine And.intro ?_ ?_
      · intro v w' hI hd K hK
        simp only [allOf, word, List.getD_cons_zero, List.getD_cons_succ, isVal, and_true, true_and] at hd
        try simp only [hd] at hK
        have HK := Lib.hid hK
        clear hK
        go_simp
        exact HK.out _ _ rfl hI (Below.refl _ _)
      refine And.intro ?_ ?_
      · intro v w' hI hd K hK
        simp only [allOf, word, List.getD_cons_zero, List.getD_cons_succ, isVal, and_true, true_and] at hd
        try simp only [hd] at hK
        have HK := Lib.hid hK
        clear hK
        go_simp
        exact HK.out _ _ rfl hI (Below.refl _ _)
      refine And.intro ?_ ?_
      · intro v w' hI hd K hK
        simp only [allOf, word, List.getD_cons_zero, List.getD_cons_succ, isVal, and_true, true_and] at hd
        simp only [hd] at hK
        have tv := SL.out A1 c1 w' (SO.out w' hI.2)
        have HK := Lib.hid hK
        clear hK
        go_simp
        exact HK.out _ _ rfl hI (Below.refl _ _)
      refine And.intro ?_ ?_
      · intro v w' hI hd K hK
        simp only [allOf, word, List.getD_cons_zero, List.getD_cons_succ, isVal, and_true, true_and] at hd
        try simp only [hd] at hK
        have HK := Lib.hid hK
        clear hK
        go_simp
        exact HK.out _ _ rfl hI (Below.refl _ _)
      refine And.intro ?_ ?_
      · intro v w' hI hd K hK
        simp only [allOf, word, List.getD_cons_zero, List.getD_cons_succ, isVal, and_true, true_and] at hd
        simp only [hd] at hK
        have tv := SL.out A c w' (SA.out w' hI.1)
        have HK := Lib.hid hK
        clear hK
        go_simp
        exact HK.out _ _ rfl hI (Below.refl _ _)
      refine And.intro ?_ ?_
      · intro v w' hI hd K hK
        simp only [allOf, word, List.getD_cons_zero, List.getD_cons_succ, isVal, and_true, true_and] at hd
        try simp only [hd] at hK
        have HK := Lib.hid hK
        clear hK
        go_simp
        exact HK.out _ _ rfl hI (Below.refl _ _)
      refine And.intro ?_ ?_
      · intro v w' hI hd K hK
        simp only [allOf, word, List.getD_cons_zero, List.getD_cons_succ, isVal, and_true, true_and] at hd
        try simp only [hd] at hK
        have HK := Lib.hid hK
        clear hK
        go_simp
        exact HK.out _ _ rfl hI (Below.refl _ _)
      refine And.intro ?_ ?_
      · intro v w' hI hd K hK
        simp only [allOf, word, List.getD_cons_zero, List.getD_cons_succ, isVal, and_true, true_and] at hd
        try simp only [hd] at hK
        have HK := Lib.hid hK
        clear hK
        go_simp
        exact HK.out _ _ rfl hI (Below.refl _ _)
      exact trivial
    intro v w9 hI hd
    simp only [allOf, word, List.getD_cons_zero, List.getD_cons_succ, isVal, and_true, true_and] at hd
    obtain ⟨h0, h1, h2, -, h4, h5, h6, h7, -, h9, h10, h11, h12, h13, h14, h15, h16, h17, h18⟩ := hd
    simp only [h0, h1, h2, h4, h5, h6, h7, h9, h10, h11, h12, h13, h14, h15, h16, h17, h18]
    clear h0 h1 h2 h4 h5 h6 h7 h9 h10 h11 h12 h13 h14 h15 h16 h17 h18
    go_wp2_with fail
    go_ret
    exact ⟨rfl, hI.1⟩
end Go.Proofs.YtgpfjeoomaadoaaDoor.Crc
