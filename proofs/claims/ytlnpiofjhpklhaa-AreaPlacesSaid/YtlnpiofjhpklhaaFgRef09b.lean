/- Contracts of two more of the document's answers for the area layer: the slot of a generation, and how many segments are used. Conditions: none beyond each lemma's own hypotheses. -/
import Derived.Test.YtlnpiofjhpklhaaFgRef09
namespace Go.Proofs.Ytlnpiofjhpklhaa.Ref09
open Go.RowKit Go.Proofs.Ytlnpiofjhpklhaa.Fg Go.Proofs.Ytlnpiofjhpklhaa.Area

theorem slot_any (g : Int) (w : World) (h0 : 0 ≤ g) : Calls Try.prog 17 #[.int .u64 g] w fun e w' => e = .returned (.int .i64 (g % 2 * 16)) ∧ w' = w := by
  by_cases h : g % 2 = 0
  · have hb : (g % 2 == 0) = true := by rw [h]; rfl
    have e : g % 2 * 16 = 0 := by omega
    rw [e]
    clear e h
    go_enter Try.func17, Try.ntmps17
    go_wp2
    go_ret
    exact ⟨rfl, rfl⟩
  · have hb : (g % 2 == 0) = false := by rw [beq_eq_false_iff_ne]; exact h
    have e : g % 2 * 16 = 16 := by omega
    rw [e]
    clear e h
    go_enter Try.func17, Try.ntmps17
    go_wp2
    go_ret
    exact ⟨rfl, rfl⟩
theorem mod_dec {a b n : Int} (hn : 0 < n) (ha : 0 ≤ a) (ha' : a < n) (hb : 0 ≤ b) (hb' : b < n) (hne : ¬ a = b) : (b - (a + 1) % n) % n = (b - a) % n - 1 := by
  have e : (a + 1) % n = if a = n - 1 then 0 else a + 1 := by
    split
    · rename_i hh; rw [hh, Int.sub_add_cancel, Int.emod_self]
    · exact Int.emod_eq_of_lt (by omega) (by omega)
  have f : ∀ x : Int, -n < x → x < n → x % n = if x < 0 then x + n else x := by
    intro x h1 h2
    split
    · rw [← Int.add_emod_right]; exact Int.emod_eq_of_lt (by omega) (by omega)
    · exact Int.emod_eq_of_lt (by omega) (by omega)
  rw [e]
  split
  · rw [f _ (by omega) (by omega), f _ (by omega) (by omega)]; split <;> split <;> omega
  · rw [f _ (by omega) (by omega), f _ (by omega) (by omega)]; split <;> split <;> omega
theorem used_any (s j k : Int) (w : World) : Calls Try.prog 16 #[.int .i64 s, .int .i64 j, .int .i64 k] w fun e w' => e = .returned (.tuple #[.int .i64 (usedV s j k), .int .i64 (thereE s [j, k])]) ∧ w = w' := by
  have T := Lib.hid (fun w => seg_any s j w)
  have T2 := Lib.hid (fun w => seg_any s k w)
  by_cases h : okB s j = true ∧ okB s k = true
  · obtain ⟨h1, h2, h3, h4, h5⟩ := okB_in h.1
    obtain ⟨-, -, g3, g4, -⟩ := okB_in h.2
    have e1 : usedV s j k = (k - j) % segsN s + 1 := by unfold usedV; rw [if_pos h]
    have e2 : thereE s [j, k] = 0 := by rw [thereE_two, if_pos h]
    have e3 : segE s j = 0 := by unfold segE; rw [if_pos h.1]
    have e4 : segE s k = 0 := by unfold segE; rw [if_pos h.2]
    have hn : 2 ≤ segsN s := by omega
    have hn' : segsN s ≤ 30 := by omega
    have j1 : j < segsN s := by omega
    have k1 : k < segsN s := by omega
    rw [e1, e2]
    rw [e3] at T
    rw [e4] at T2
    have ok : ∀ x : Int, 0 ≤ x → x < segsN s → okB s x = true := fun x a b => by unfold okB; rw [decide_eq_true a, decide_eq_true b]; rfl
    have OK := Lib.hid ok
    clear e1 e2 e3 e4 h h5 h4 g4 ok
    go_enter Try.func16, Try.ntmps16
    go_wp2_with fail
    refine (T.out _).mono ?_
    rintro e w' ⟨rfl, rfl⟩
    go_wp2_with fail
    refine (T2.out _).mono ?_
    rintro e w' ⟨rfl, rfl⟩
    go_wp2_with fail
    go_loopg [1, 12] 30 (fun g a m wr => ∃ x y : Int, w = wr ∧ a = .int .i64 x ∧ m = .int .i64 y ∧ 0 ≤ x ∧ x < segsN s ∧ 1 ≤ y ∧ y ≤ 31 ∧ (k - x) % segsN s + y = (k - j) % segsN s + 1 ∧ (k - x) % segsN s ≤ g)
    case atStart =>
      refine ⟨j, 1, rfl, rfl, rfl, h3, j1, by omega, by omega, rfl, ?_⟩
      have := Int.emod_lt_of_pos (k - j) (show 0 < segsN s by omega)
      omega
    case round =>
      obtain ⟨x, y, rfl, rfl, rfl, x0, x1, y1, y2, hsum, hg⟩ := hrel
      have HS := Lib.hid hsum
      have HG := Lib.hid hg
      clear hsum hg
      by_cases hx : x = k
      · have hb : (x != k) = false := by rw [bne_eq_false_iff_eq]; exact hx
        have HX := Lib.hid hx
        clear hx
        go_wp2_with fail
        go_ret2
        have e := HS.out
        rw [HX.out, Int.sub_self, Int.zero_emod, Int.zero_add] at e
        exact ⟨by rw [← e]; rfl, rfl⟩
      · have hb : (x != k) = true := by rw [bne_iff_ne]; exact hx
        have hd := mod_dec (show 0 < segsN s by omega) x0 x1 g3 k1 hx
        have HD := Lib.hid hd
        have HX := Lib.hid hx
        clear hx hd
        go_wp2_with fail
        refine (next_any s x _).mono ?_
        rintro e w' ⟨rfl, rfl⟩
        go_wp2_with fail
        have hnv : nextV s x = (x + 1) % segsN s := by unfold nextV; rw [if_pos (OK.out x x0 x1)]
        have m0 := Int.emod_nonneg (x + 1) (show segsN s ≠ 0 by omega)
        have m1 := Int.emod_lt_of_pos (x + 1) (show 0 < segsN s by omega)
        have q0 := Int.emod_nonneg (k - (x + 1) % segsN s) (show segsN s ≠ 0 by omega)
        have q1 := Int.emod_lt_of_pos (k - x) (show 0 < segsN s by omega)
        have q2 := Int.emod_lt_of_pos (k - j) (show 0 < segsN s by omega)
        have hs1 := HS.out
        have hg1 := HG.out
        have hd1 := HD.out
        have e1 : wrap64 (y + 1) = y + 1 := w64 (by omega) (by omega)
        go_roundg (gk - 1)
        case rel => exact ⟨_, y + 1, rfl, rfl, by first | rfl | rw [e1], by rw [hnv]; omega, by rw [hnv]; omega, by omega, by omega, by rw [hnv]; omega, by rw [hnv]; omega⟩
        case measure => omega
  · have e1 : usedV s j k = 0 := by unfold usedV; rw [if_neg h]
    have e2 : thereE s [j, k] = 91 := by rw [thereE_two, if_neg h]
    rw [e1, e2]
    clear e1 e2
    have hh : segE s j = 91 ∨ (segE s j = 0 ∧ segE s k = 91) := by
      unfold segE
      by_cases a : okB s j = true
      · rw [if_pos a, if_neg (fun b => h ⟨a, b⟩)]; omega
      · rw [if_neg a]; omega
    clear h
    rcases hh with h0 | ⟨h0, h1⟩
    · rw [h0] at T
      clear h0
      go_enter Try.func16, Try.ntmps16
      go_wp2_with fail
      refine (T.out _).mono ?_
      rintro e w' ⟨rfl, rfl⟩
      go_wp2_with fail
      refine (T2.out _).mono ?_
      rintro e w' ⟨rfl, rfl⟩
      go_wp2_with fail
      go_ret2
      exact ⟨rfl, rfl⟩
    · rw [h0] at T
      rw [h1] at T2
      clear h0 h1
      go_enter Try.func16, Try.ntmps16
      go_wp2_with fail
      refine (T.out _).mono ?_
      rintro e w' ⟨rfl, rfl⟩
      go_wp2_with fail
      refine (T2.out _).mono ?_
      rintro e w' ⟨rfl, rfl⟩
      go_wp2_with fail
      go_ret2
      exact ⟨rfl, rfl⟩
end Go.Proofs.Ytlnpiofjhpklhaa.Ref09
