/- The law DrrRuns of floodgate's scheduler: whatever is done with it. There are no conditions. -/
import Derived.Test.YtliepgmjpbjhfaaFgDrrRuns1
set_option linter.unusedVariables false
namespace Go.Proofs.Ytliepgmjpbjhfaa.Drr
open Go.RowKit Go.Proofs.Ytliepgmjpbjhfaa.Fg Go.ChangeShapes Go.WideShapes Go.ChangeAt

set_option maxRecDepth 100000 in
theorem drrRuns_lifted (os : Os) (started : os.Started) (H : Type) (enc : TypeId × Value → H) :
    ReturnsInHanded {} Try.checked os 7 .any (Rows.drrRunsSpec.pre6 enc Try.prog Try.f7 Rows.drrRunsRow.domain false) (Rows.drrRunsSpec.post enc Try.prog Try.f7 false true false false) := by
  refine law_lifted (C := Try.checked) laidOut own started (by kernel_rfl) Try.func7 rfl Try.underlying4 (by kernel_rfl) rfl
    (ChangeSpec.witness6 (enc := enc) (C := Try.checked) false ⟨#[], #[.slice none 0 0], []⟩ 8 (by kernel_rfl) (by kernel_rfl) (by kernel_rfl) (by kernel_rfl)) ?_
  intro W base args ds p hval0 hA0 _ hsz0
  have hval : ∀ (j : Nat) t v, Try.f7.params[j]? = some t → args[j]? = some v → Value.okWide Try.prog W .any base t v := hval0
  have hA : DataW.TrodAll enc Try.prog W 0 (fun _ => true) true Try.f7.params.toList args ds p := hA0
  have hsz : (DataW.weightsEach Try.prog Try.f7.params.toList ds).all (· ≤ reachBytes) = true := hsz0
  rw [Try.params7] at hA hval hsz
  obtain ⟨v0, vs0, d0, ds0, p0, q0, rfl, rfl, rfl, h0, r0⟩ := trodAll_cons hA
  obtain ⟨rfl, rfl, rfl⟩ := trodAll_nil r0
  obtain ⟨A0, c0, l0, rfl, lc0, cm0, s0⟩ := open_acts2 (hval 0 _ v0 rfl rfl) h0
  exact ⟨rfl, runs_law A0 c0 l0 W lc0 cm0 s0⟩
end Go.Proofs.Ytliepgmjpbjhfaa.Drr
namespace Go.Proofs.Ytliepgmjpbjhfaa
/-- The row, under a short name, for the claim. -/
theorem drrRuns_holds : Rows.DrrRunsSaid :=
  OpenClaim.holds_of_wide 7 Try.f7 rfl rfl rfl rfl rfl rfl rfl ⟨rfl, rfl, rfl, rfl, rfl⟩ rfl rfl rfl rfl rfl (by kernel_rfl) Try.func7 (by kernel_rfl)
    (of_decide_eq_true (by kernel_rfl)) (by unfold Func.isWrapper; first | (rw [if_pos (by decide +kernel)]; kernel_rfl) | (rw [if_neg (by decide +kernel)]; exact ⟨rfl, rfl⟩))
    (fun os started H enc _ => Drr.drrRuns_lifted os started H enc)
#print axioms drrRuns_holds
end Go.Proofs.Ytliepgmjpbjhfaa
