/- FrameTorn: some sectors of a record in the place of those of another one: what is opened is one of both, or nothing, unless the sum is right by chance; a record whose sectors are all there is opened. There are no conditions. -/
import Derived.Test.YtbpmakfgjdjmaaaFgFrameTorn1
set_option linter.unusedVariables false
namespace Go.Proofs.Ytbpmakfgjdjmaaa.Frame
open Go.RowKit Go.Proofs.Ytbpmakfgjdjmaaa.Fg Go.ChangeShapes Go.WideShapes Go.ChangeAt

set_option maxRecDepth 100000 in
theorem frameTorn_lifted (os : Os) (started : os.Started) (H : Type) (enc : TypeId × Value → H) :
    ReturnsInHanded {} Try.checked os 7 .any (Rows.frameTornSpec.pre6 enc Try.prog Try.f7 Rows.frameTornRow.domain false) (Rows.frameTornSpec.post enc Try.prog Try.f7 false true false false) := by
  refine law_lifted (C := Try.checked) laidOut own started (by kernel_rfl) Try.func7 rfl Try.underlying4 (by kernel_rfl) rfl
    (ChangeSpec.witness6 (enc := enc) (C := Try.checked) false ⟨#[], #[.agg #[.int .u64 0, .int .u32 0, .slice none 0 0], .agg #[.int .u64 0, .int .u32 0, .slice none 0 0], .slice none 0 0], []⟩ 8 (by kernel_rfl) (by kernel_rfl) (by kernel_rfl) (by kernel_rfl)) ?_
  intro W base args ds p hval0 hA0 _ hsz0
  have hval : ∀ (j : Nat) t v, Try.f7.params[j]? = some t → args[j]? = some v → Value.okWide Try.prog W .any base t v := hval0
  have hA : DataW.TrodAll enc Try.prog W 0 (fun _ => true) true Try.f7.params.toList args ds p := hA0
  have hsz : (DataW.weightsEach Try.prog Try.f7.params.toList ds).all (· ≤ reachBytes) = true := hsz0
  rw [Try.params7] at hA hval hsz
  obtain ⟨v0, vs0, d0, ds0, p0, q0, rfl, rfl, rfl, h0, r0⟩ := trodAll_cons hA
  obtain ⟨v1, vs1, d1, ds1, p1, q1, rfl, rfl, rfl, h1, r1⟩ := trodAll_cons r0
  obtain ⟨v2, vs2, d2, ds2, p2, q2, rfl, rfl, rfl, h2, r2⟩ := trodAll_cons r1
  obtain ⟨rfl, rfl, rfl⟩ := trodAll_nil r2
  obtain ⟨R0, A0, c0, rfl, s0, rb0, ok0⟩ := open_rec (hval 0 _ v0 rfl rfl) h0 (fun n hn => of_decide_eq_true (List.all_eq_true.1 hsz n (DataW.weights_mem_each (j := 0) rfl rfl n hn)))
  obtain ⟨R1, A1, c1, rfl, s1, rb1, ok1⟩ := open_rec (hval 1 _ v1 rfl rfl) h1 (fun n hn => of_decide_eq_true (List.all_eq_true.1 hsz n (DataW.weights_mem_each (j := 1) rfl rfl n hn)))
  obtain ⟨A2, c2, l2, rfl, s2⟩ := open_bools_arg (hval 2 _ v2 rfl rfl) h2
  exact ⟨rfl, torn_any R0 ok0 A0 c0 R1 ok1 A1 c1 A2 c2 l2 W s0 rb0 s1 rb1 s2⟩
end Go.Proofs.Ytbpmakfgjdjmaaa.Frame
namespace Go.Proofs.Ytbpmakfgjdjmaaa
/-- The row, under a short name, for the claim. -/
theorem frameTorn_holds : Rows.FrameTornSaid :=
  OpenClaim.holds_of_wide 7 Try.f7 rfl rfl rfl rfl rfl rfl rfl ⟨rfl, rfl, rfl, rfl, rfl⟩ rfl rfl rfl rfl rfl (by kernel_rfl) Try.func7 (by kernel_rfl)
    (of_decide_eq_true (by kernel_rfl)) (by unfold Func.isWrapper; first | (rw [if_pos (by decide +kernel)]; kernel_rfl) | (rw [if_neg (by decide +kernel)]; exact ⟨rfl, rfl⟩))
    (fun os started H enc _ => Frame.frameTorn_lifted os started H enc)
#print axioms frameTorn_holds
end Go.Proofs.Ytbpmakfgjdjmaaa
