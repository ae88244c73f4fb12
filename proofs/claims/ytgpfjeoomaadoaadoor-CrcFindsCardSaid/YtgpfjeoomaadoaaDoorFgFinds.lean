/- The walk of the law CrcFinds of floodgate's crc layer. Conditions: the table of de Bruijn's words is laid. -/
import Derived.Test.YtgpfjeoomaadoaaDoorFgBurst1
import Derived.Test.YtgpfjeoomaadoaaDoorFgCrcOpen0
set_option linter.unusedVariables false
set_option linter.unusedSimpArgs false
namespace Go.Proofs.YtgpfjeoomaadoaaDoor.Crc
open Go.RowKit Go.Proofs.YtgpfjeoomaadoaaDoor.Fg

theorem sealed_form (l : List Int) : sealed l = l ++ tailB (~~~ (feeds (BitVec.allOnes 32) l)) := by
  rw [sealed, sumOf, more]
  have e : (~~~ (0#32) : BitVec 32) = BitVec.allOnes 32 := by decide
  rw [e]
theorem opens_iff {y : List Int} : opens y = true ↔ ∃ u, y = u ++ tailB (~~~ (feeds (BitVec.allOnes 32) u)) := by
  have e : (~~~ (0#32) : BitVec 32) = BitVec.allOnes 32 := by decide
  constructor
  · intro h
    rw [opens, decide_eq_true_eq] at h
    refine ⟨y.take (y.length - 4), ?_⟩
    have h2 := h.2
    rw [sumOf, more, e] at h2
    rw [h2, List.take_append_drop]
  · rintro ⟨u, rfl⟩
    have e4 : (u ++ tailB (~~~ (feeds (BitVec.allOnes 32) u))).length - 4 = u.length := by simp [tailB]
    rw [opens, decide_eq_true_eq, e4, List.take_left, List.drop_left, sumOf, more, e]
    exact ⟨by simp [tailB], rfl⟩
theorem opens_sealed' (l : List Int) : opens (sealed l) = true := opens_iff.2 ⟨l, sealed_form l⟩
theorem opened_sealed (l : List Int) : opened (sealed l) = l := by
  rw [opened, if_pos (opens_sealed' l), sealed_length, Nat.add_sub_cancel, sealed, List.take_left]
theorem opens_burst {l : List Int} (h : Small l) (at_ : Int) (m : BitVec 32) : opens (burst (sealed l) at_ m) = decide (burst (sealed l) at_ m = sealed l) := by
  by_cases ho : opens (burst (sealed l) at_ m) = true
  · obtain ⟨u, hu⟩ := opens_iff.1 ho
    rw [ho, decide_eq_true (burst_found (sealed_small h) at_ m l u (sealed_form l) hu)]
  · rw [decide_eq_false (fun e => ho (by rw [e]; exact opens_sealed' l))]
    simpa using ho
set_option maxRecDepth 100000 in
set_option maxHeartbeats 1000000 in
theorem finds_any (l : List Int) (hb : Small l) (A : Option Addr) (c : Nat) (at_ : Int) (hat : -9223372036854775808 ≤ at_ ∧ at_ ≤ 9223372036854775807) (m : BitVec 32) (W : World) (hs : Fg.Src W A l.length c (bv l)) (hT : TabW W) :
    Calls Tryd.prog 5 #[.slice A l.length c, .int .i64 at_, .int .u32 m.toNat] W fun e w' => e = .returned (.bool true) ∧ Below W.heap.size W w' := by
  have HB := Lib.hid hb
  have HT := Lib.hid hT
  have HAT := Lib.hid hat
  have SA : Hid (∀ w', Below W.heap.size W w' → Fg.Src w' A l.length c (bv l)) := Lib.hid (fun w' hb => hs.same fun ad had hne => hb.block _ (hs.lt had hne))
  clear hb hs hT hat
  go_enter Tryd.func5, Tryd.ntmps5
  go_wp2_with fail
  refine (alive_any W).mono ?_
  rintro e w0 ⟨rfl, hb0⟩
  have HB0 := Lib.hid hb0
  clear hb0
  by_cases h1 : 500 < (l.length : Int)
  · go_wp2_with fail
    go_ret
    exact ⟨rfl, HB0.out⟩
  · go_wp2_with fail
    refine (seal_any l HB.out (by omega) A c w0 (SA.out _ HB0.out)).mono ?_
    rintro e w1 ⟨A1, c1, rfl, ho1, hb1⟩
    have HB1 : Hid (Below W.heap.size W w1) := Lib.hid (HB0.out.trans (hb1.mono HB0.out.size))
    obtain ⟨X, hX⟩ : ∃ X, sealed l = X := ⟨_, rfl⟩
    have XS : Hid (Small X) := Lib.hid (hX ▸ sealed_small HB.out)
    have XL : X.length = l.length + 4 := by rw [← hX]; exact sealed_length l
    rw [hX, ← XL] at ho1
    have S1 : Hid (∀ w', Below w1.heap.size w1 w' → Fg.Src w' A1 X.length c1 (bv X)) := Lib.hid (fun w' hb => (Fg.Src.of_own ho1).same fun ad had hne => hb.block _ ((Fg.Src.of_own ho1).lt had hne))
    have HX := Lib.hid hX
    rw [← XL]
    have HXL := Lib.hid XL
    clear ho1 hb1 hX XL
    go_wp2_with fail
    refine (burst_any X XS.out (by have := HXL.out; omega) at_ HAT.out m A1 c1 w1 (S1.out _ (Below.refl _ _)) (HT.out.below HB1.out)).mono ?_
    rintro e w2 ⟨A2, c2, rfl, ho2, hb2⟩
    have HB2 := Lib.hid hb2
    have OB : Hid (opens (burst X at_ m) = decide (burst X at_ m = X)) := Lib.hid (by have := opens_burst HB.out at_ m; rwa [HX.out] at this)
    obtain ⟨Y, hY⟩ : ∃ Y, burst X at_ m = Y := ⟨_, rfl⟩
    have YS : Hid (Small Y) := Lib.hid (hY ▸ burst_small XS.out at_ m)
    have YL : X.length = Y.length := by rw [← hY]; exact (burst_length X at_ m).symm
    rw [hY] at OB ho2
    rw [YL] at ho2
    have S2 : Hid (∀ w', Below w2.heap.size w2 w' → Fg.Src w' A2 Y.length c2 (bv Y)) := Lib.hid (fun w' hb => (Fg.Src.of_own ho2).same fun ad had hne => hb.block _ ((Fg.Src.of_own ho2).lt had hne))
    have SB := str_beq XS.out YS.out
    rw [show ((.slice A2 X.length c2 : Value)) = .slice A2 Y.length c2 by rw [YL]]
    have HYL := Lib.hid YL
    have HSB := Lib.hid SB
    clear ho2 hb2 hY YL SB
    go_wp2_with fail
    refine (open_any X XS.out (by have := HXL.out; omega) A1 c1 w2 (S1.out _ HB2.out)).mono ?_
    rintro e w3 ⟨A3, c3, rfl, ho3, hb3⟩
    have HB3 := Lib.hid hb3
    have S3 : Hid (∀ w', Below w3.heap.size w3 w' → Fg.Src w' A3 l.length c3 (bv l)) := by
      rw [← HX.out, opened_sealed] at ho3
      exact Lib.hid (fun w' hb => (Fg.Src.of_own ho3).same fun ad had hne => hb.block _ ((Fg.Src.of_own ho3).lt had hne))
    rw [← HX.out, opened_sealed, opens_sealed', HX.out]
    clear ho3 hb3
    go_wp2_with fail
    refine (open_any Y YS.out (by have := HXL.out; have := HYL.out; omega) A2 c2 w3 (S2.out _ HB3.out)).mono ?_
    rintro e w4 ⟨A4, c4, rfl, ho4, hb4⟩
    have HB4 := Lib.hid hb4
    clear ho4 hb4
    have T1 := str_run _ _ _ _ (S1.out w4 (HB2.out.trans ((HB3.out.trans (HB4.out.mono HB3.out.size)).mono HB2.out.size)))
    have T2 := str_run _ _ _ _ (S2.out w4 (HB3.out.trans (HB4.out.mono HB3.out.size)))
    have T3 := str_run _ _ _ _ (S3.out w4 HB4.out)
    have TA := str_run _ _ _ _ (SA.out w4 (HB1.out.trans ((HB2.out.trans ((HB3.out.trans (HB4.out.mono HB3.out.size)).mono HB2.out.size)).mono HB1.out.size)))
    have FIN : Hid (Below W.heap.size W w4) := Lib.hid (HB1.out.trans ((HB2.out.trans ((HB3.out.trans (HB4.out.mono HB3.out.size)).mono HB2.out.size)).mono HB1.out.size))
    by_cases hYX : Y = X
    · have hop : opens Y = true := by rw [OB.out, decide_eq_true hYX]
      rw [hop]
      have SB1 : ((strOfNums X).toList == (strOfNums Y).toList) = true := by rw [HSB.out, decide_eq_true hYX.symm]
      clear hYX hop
      go_wp2_with fail
      go_ret
      exact ⟨rfl, FIN.out⟩
    · have hop : opens Y = false := by rw [OB.out, decide_eq_false hYX]
      rw [hop]
      have SB1 : ((strOfNums X).toList == (strOfNums Y).toList) = false := by rw [HSB.out, decide_eq_false (fun e => hYX e.symm)]
      clear hYX hop
      go_wp2_with fail
      go_ret
      exact ⟨rfl, FIN.out⟩
end Go.Proofs.YtgpfjeoomaadoaaDoor.Crc
