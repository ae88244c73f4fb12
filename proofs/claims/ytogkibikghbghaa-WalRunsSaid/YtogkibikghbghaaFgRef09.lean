/- Contracts of the document's answers for the area layer: they compute what the layer's own calls compute. Conditions: none beyond each lemma's own hypotheses. -/
import Derived.Test.YtogkibikghbghaaFgArea
namespace Go.Proofs.Ytogkibikghbghaa.Ref09
open Go.RowKit Go.Proofs.Ytogkibikghbghaa.Fg Go.Proofs.Ytogkibikghbghaa.Area

theorem segs_any (s : Int) (w : World) : Calls Try.prog 64 #[.int .i64 s] w fun e w' => e = .returned (.tuple #[.int .i64 (segsN s), .int .i64 (segsE s)]) ∧ w = w' := by
  by_cases h : 64 ≤ s ∧ s ≤ 512
  · obtain ⟨h1, h2⟩ := h
    have e1 : segsN s = (s - 32) / 16 := by unfold segsN; rw [if_pos ⟨h1, h2⟩]
    have e2 : segsE s = 0 := by unfold segsE; rw [if_pos ⟨h1, h2⟩]
    rw [e1, e2]
    clear e1 e2
    go_enter Try.func64, Try.ntmps64
    go_wp2
    go_loop [4] (fun n => ∃ j : Nat, (j : Int) ≤ (s - 32) / 16 ∧ n = .int .i64 j) (fun n => 30 - (intOf n).toNat)
    case atStart => exact ⟨0, by omega, rfl⟩
    case round =>
      obtain ⟨j, hj, rfl⟩ := hrel
      by_cases hlt : (j : Int) < (s - 32) / 16
      · have ht : 32 + 16 * ((j : Int) + 1) ≤ s := by omega
        go_wp2
        go_round
        case rel => exact ⟨j + 1, by omega, by go_num⟩
        case measure => simp [intOf]; omega
      · have ht : ¬ (32 + 16 * ((j : Int) + 1) ≤ s) := by omega
        have he : (j : Int) = (s - 32) / 16 := by omega
        have HE := Lib.hid he
        clear he
        go_wp2
        go_ret2
        exact ⟨by rw [← HE.out]; rfl, rfl⟩
  · have e1 : segsN s = 0 := by unfold segsN; rw [if_neg h]
    have e2 : segsE s = 91 := by unfold segsE; rw [if_neg h]
    rw [e1, e2]
    clear e1 e2
    by_cases h1 : s < 64
    · go_enter Try.func64, Try.ntmps64
      go_wp2
      go_ret2
      exact ⟨rfl, rfl⟩
    · have h2 : 512 < s := by omega
      clear h
      go_enter Try.func64, Try.ntmps64
      go_wp2
      go_ret2
      exact ⟨rfl, rfl⟩


theorem okB_out {s k : Int} (h : ¬ okB s k = true) : segsE s = 91 ∨ (segsE s = 0 ∧ k < 0) ∨ (segsE s = 0 ∧ 0 ≤ k ∧ segsN s ≤ k) := by
  unfold okB at h
  unfold segsE
  by_cases hs : 64 ≤ s ∧ s ≤ 512
  · rw [if_pos hs]
    simp only [Bool.and_eq_true, decide_eq_true_eq] at h
    omega
  · rw [if_neg hs]; omega

theorem seg_any (s k : Int) (w : World) : Calls Try.prog 46 #[.int .i64 s, .int .i64 k] w fun e w' => e = .returned (.tuple #[.int .i64 (segV s k), .int .i64 (segE s k)]) ∧ w = w' := by
  have T := Lib.hid (fun w => segs_any s w)
  by_cases h : okB s k = true
  · obtain ⟨h1, h2, h3, h4, h5⟩ := okB_in h
    have e1 : segV s k = 32 + 16 * k := by unfold segV; rw [if_pos h]; omega
    have e2 : segE s k = 0 := by unfold segE; rw [if_pos h]
    have e3 : segsE s = 0 := by unfold segsE; rw [if_pos ⟨h1, h2⟩]
    rw [e1, e2]
    rw [e3] at T
    have h6 : k < segsN s := by omega
    clear e1 e2 e3 h h5
    go_enter Try.func46, Try.ntmps46
    go_wp2_with fail
    refine (T.out _).mono ?_
    rintro e w' ⟨rfl, rfl⟩
    go_wp2_with fail
    go_ret2
    exact ⟨rfl, rfl⟩
  · have e1 : segV s k = 0 := by unfold segV; rw [if_neg h]
    have e2 : segE s k = 91 := by unfold segE; rw [if_neg h]
    rw [e1, e2]
    clear e1 e2
    rcases okB_out h with h0 | ⟨h0, h1⟩ | ⟨h0, h1, h2⟩
    all_goals
      rw [h0] at T
      clear h0 h
      go_enter Try.func46, Try.ntmps46
      go_wp2_with fail
      refine (T.out _).mono ?_
      rintro e w' ⟨rfl, rfl⟩
      go_wp2_with fail
      go_ret2
      exact ⟨rfl, rfl⟩

theorem next_any (s k : Int) (w : World) : Calls Try.prog 54 #[.int .i64 s, .int .i64 k] w fun e w' => e = .returned (.tuple #[.int .i64 (nextV s k), .int .i64 (segE s k)]) ∧ w = w' := by
  have T := Lib.hid (fun w => segs_any s w)
  by_cases h : okB s k = true
  · obtain ⟨h1, h2, h3, h4, h5⟩ := okB_in h
    have e1 : nextV s k = if k = segsN s - 1 then 0 else k + 1 := by
      unfold nextV
      rw [if_pos h]
      split
      · rename_i hh
        rw [hh, Int.sub_add_cancel, Int.emod_self]
      · exact Int.emod_eq_of_lt (by omega) (by omega)
    have e2 : segE s k = 0 := by unfold segE; rw [if_pos h]
    have e3 : segsE s = 0 := by unfold segsE; rw [if_pos ⟨h1, h2⟩]
    rw [e1, e2]
    rw [e3] at T
    have h6 : k < segsN s := by omega
    have h7 : segsN s ≤ 30 := by omega
    clear e1 e2 e3 h h5
    by_cases hk : k = segsN s - 1
    · have hb : (k == segsN s - 1) = true := by rw [beq_iff_eq]; exact hk
      rw [if_pos hk]
      clear hk
      go_enter Try.func54, Try.ntmps54
      go_wp2_with fail
      refine (T.out _).mono ?_
      rintro e w' ⟨rfl, rfl⟩
      go_wp2_with fail
      go_ret2
      exact ⟨rfl, rfl⟩
    · have hb : (k == segsN s - 1) = false := by rw [beq_eq_false_iff_ne]; exact hk
      rw [if_neg hk]
      clear hk
      go_enter Try.func54, Try.ntmps54
      go_wp2_with fail
      refine (T.out _).mono ?_
      rintro e w' ⟨rfl, rfl⟩
      go_wp2_with fail
      go_ret2
      exact ⟨rfl, rfl⟩
  · have e1 : nextV s k = 0 := by unfold nextV; rw [if_neg h]
    have e2 : segE s k = 91 := by unfold segE; rw [if_neg h]
    rw [e1, e2]
    clear e1 e2
    rcases okB_out h with h0 | ⟨h0, h1⟩ | ⟨h0, h1, h2⟩
    all_goals
      rw [h0] at T
      clear h0 h
      go_enter Try.func54, Try.ntmps54
      go_wp2_with fail
      refine (T.out _).mono ?_
      rintro e w' ⟨rfl, rfl⟩
      go_wp2_with fail
      go_ret2
      exact ⟨rfl, rfl⟩

end Go.Proofs.Ytogkibikghbghaa.Ref09
