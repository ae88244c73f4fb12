/- The law DrrRests of floodgate's scheduler: a member that rests, or is blocked, has nothing saved. There are no conditions. -/
import Derived.Test.YtliepgmjpbjhfaaFgDrrRests1
set_option linter.unusedVariables false
namespace Go.Proofs.Ytliepgmjpbjhfaa.Drr
open Go.RowKit Go.Proofs.Ytliepgmjpbjhfaa.Fg Go.ChangeShapes Go.WideShapes Go.ChangeAt

set_option maxRecDepth 100000 in
theorem drrRests_lifted (os : Os) (started : os.Started) (H : Type) (enc : TypeId × Value → H) :
    ReturnsInHanded {} Try.checked os 5 .any (Rows.drrRestsSpec.pre6 enc Try.prog Try.f5 Rows.drrRestsRow.domain false) (Rows.drrRestsSpec.post enc Try.prog Try.f5 false true false false) := by
  refine law_lifted (C := Try.checked) laidOut own started (by kernel_rfl) Try.func5 rfl Try.underlying4 (by kernel_rfl) rfl
    (ChangeSpec.witness6 (enc := enc) (C := Try.checked) false ⟨#[], #[.int .u64 0, .slice none 0 0, .bool false], []⟩ 8 (by kernel_rfl) (by kernel_rfl) (by kernel_rfl) (by kernel_rfl)) ?_
  intro W base args ds p hval0 hA0 _ hsz0
  have hval : ∀ (j : Nat) t v, Try.f5.params[j]? = some t → args[j]? = some v → Value.okWide Try.prog W .any base t v := hval0
  have hA : DataW.TrodAll enc Try.prog W 0 (fun _ => true) true Try.f5.params.toList args ds p := hA0
  have hsz : (DataW.weightsEach Try.prog Try.f5.params.toList ds).all (· ≤ reachBytes) = true := hsz0
  rw [Try.params5] at hA hval hsz
  obtain ⟨v0, vs0, d0, ds0, p0, q0, rfl, rfl, rfl, h0, r0⟩ := trodAll_cons hA
  obtain ⟨v1, vs1, d1, ds1, p1, q1, rfl, rfl, rfl, h1, r1⟩ := trodAll_cons r0
  obtain ⟨v2, vs2, d2, ds2, p2, q2, rfl, rfl, rfl, h2, r2⟩ := trodAll_cons r1
  obtain ⟨rfl, rfl, rfl⟩ := trodAll_nil r2
  obtain ⟨z0, rfl, rfl, rfl, wz0⟩ := open_int Try.underlying24 (hval 0 _ v0 rfl rfl) h0
  obtain ⟨A1, c1, l1, rfl, s1, wf1⟩ := open_u64s (hval 1 _ v1 rfl rfl) h1
  obtain ⟨z2, rfl, rfl, rfl⟩ := open_bool Try.underlying4 (hval 2 _ v2 rfl rfl) h2
  exact ⟨rfl, rests_law z0 wz0 A1 c1 l1 z2 W s1 wf1⟩
end Go.Proofs.Ytliepgmjpbjhfaa.Drr
namespace Go.Proofs.Ytliepgmjpbjhfaa
/-- The row, under a short name, for the claim. -/
theorem drrRests_holds : Rows.DrrRestsSaid :=
  OpenClaim.holds_of_wide 5 Try.f5 rfl rfl rfl rfl rfl rfl rfl ⟨rfl, rfl, rfl, rfl, rfl⟩ rfl rfl rfl rfl rfl (by kernel_rfl) Try.func5 (by kernel_rfl)
    (of_decide_eq_true (by kernel_rfl)) (by unfold Func.isWrapper; first | (rw [if_pos (by decide +kernel)]; kernel_rfl) | (rw [if_neg (by decide +kernel)]; exact ⟨rfl, rfl⟩))
    (fun os started H enc _ => Drr.drrRests_lifted os started H enc)
#print axioms drrRests_holds
end Go.Proofs.Ytliepgmjpbjhfaa
