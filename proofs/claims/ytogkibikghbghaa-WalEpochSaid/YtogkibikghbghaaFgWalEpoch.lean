/- The law WalEpoch of floodgate's log: records of another epoch, or other numbers, are not found in a log. There are no conditions. -/
import Derived.Test.YtogkibikghbghaaFgWalEpoch1
set_option linter.unusedVariables false
namespace Go.Proofs.Ytogkibikghbghaa.Wal
open Go.RowKit Go.Proofs.Ytogkibikghbghaa.Fg Go.ChangeShapes Go.WideShapes Go.ChangeAt

set_option maxRecDepth 100000 in
theorem walEpoch_lifted (os : Os) (started : os.Started) (H : Type) (enc : TypeId × Value → H) :
    ReturnsInHanded {} Try.checked os 4 .any (Rows.walEpochSpec.pre6 enc Try.prog Try.f4 Rows.walEpochRow.domain false) (Rows.walEpochSpec.post enc Try.prog Try.f4 false true false false) := by
  refine law_lifted (C := Try.checked) laidOut own started (by kernel_rfl) Try.func4 rfl Try.underlying4 (by kernel_rfl) rfl
    (ChangeSpec.witness6 (enc := enc) (C := Try.checked) false ⟨#[], #[.slice none 0 0, .int .u32 0, .int .u64 0], []⟩ 8 (by kernel_rfl) (by kernel_rfl) (by kernel_rfl) (by kernel_rfl)) ?_
  intro W base args ds p hval0 hA0 _ hsz0
  have hval : ∀ (j : Nat) t v, Try.f4.params[j]? = some t → args[j]? = some v → Value.okWide Try.prog W .any base t v := hval0
  have hA : DataW.TrodAll enc Try.prog W 0 (fun _ => true) true Try.f4.params.toList args ds p := hA0
  have hsz : (DataW.weightsEach Try.prog Try.f4.params.toList ds).all (· ≤ reachBytes) = true := hsz0
  rw [Try.params4] at hA hval hsz
  obtain ⟨v0, vs0, d0, ds0, p0, q0, rfl, rfl, rfl, h0, r0⟩ := trodAll_cons hA
  obtain ⟨v1, vs1, d1, ds1, p1, q1, rfl, rfl, rfl, h1, r1⟩ := trodAll_cons r0
  obtain ⟨v2, vs2, d2, ds2, p2, q2, rfl, rfl, rfl, h2, r2⟩ := trodAll_cons r1
  obtain ⟨rfl, rfl, rfl⟩ := trodAll_nil r2
  obtain ⟨A0, c0, l0, rfl, s0, wf0⟩ := open_ints_arg (hval 0 _ v0 rfl rfl) h0
  obtain ⟨z1, rfl, rfl, rfl, wz1⟩ := open_int Try.underlying28 (hval 1 _ v1 rfl rfl) h1
  obtain ⟨z2, rfl, rfl, rfl, wz2⟩ := open_int Try.underlying29 (hval 2 _ v2 rfl rfl) h2
  exact ⟨rfl, epoch_any A0 c0 l0 z1 wz1 z2 wz2 W s0⟩
end Go.Proofs.Ytogkibikghbghaa.Wal
namespace Go.Proofs.Ytogkibikghbghaa
/-- The row, under a short name, for the claim. -/
theorem walEpoch_holds : Rows.WalEpochSaid :=
  OpenClaim.holds_of_wide 4 Try.f4 rfl rfl rfl rfl rfl rfl rfl ⟨rfl, rfl, rfl, rfl, rfl⟩ rfl rfl rfl rfl rfl (by kernel_rfl) Try.func4 (by kernel_rfl)
    (of_decide_eq_true (by kernel_rfl)) (by unfold Func.isWrapper; first | (rw [if_pos (by decide +kernel)]; kernel_rfl) | (rw [if_neg (by decide +kernel)]; exact ⟨rfl, rfl⟩))
    (fun os started H enc _ => Wal.walEpoch_lifted os started H enc)
#print axioms walEpoch_holds
end Go.Proofs.Ytogkibikghbghaa
