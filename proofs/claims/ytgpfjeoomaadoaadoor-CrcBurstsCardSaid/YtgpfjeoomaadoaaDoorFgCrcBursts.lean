/- The law CrcBursts of floodgate's crc layer: any bytes with any bits turned. Conditions: the table of de Bruijn's words is laid as the program's text lays it (the card ties it). -/
import Derived.Test.YtgpfjeoomaadoaaDoorFgBursts
import Derived.Test.YtgpfjeoomaadoaaDoorFgDoorLift
set_option linter.unusedVariables false
namespace Go.Proofs.YtgpfjeoomaadoaaDoor.Crc
open Go.RowKit Go.Proofs.YtgpfjeoomaadoaaDoor.Fg Go.ChangeShapes Go.WideShapes Go.ChangeAt

set_option maxRecDepth 100000 in
theorem crcBursts_lifted (os : Os) (started : os.Started) (H : Type) (enc : TypeId × Value → H) :
    ReturnsInHanded {} Tryd.checked os 3 .any (fun w args => (Rows.crcBurstsSpec.pre enc Tryd.prog Tryd.f3 [] false w args ∧ laidMetH Tryd.prog laid1 w) ∧ sizedMet enc Tryd.prog Tryd.f3 (OpenSpec.ofChange Rows.crcBurstsSpec) false w args) (Rows.crcBurstsSpec.post enc Tryd.prog Tryd.f3 false true false false) := by
  refine law_lifted_laid (X := fun w => laidMetH Tryd.prog laid1 w) (C := Tryd.checked) laidOut (fun _ _ hh h => h.of_heap hh) own started (by kernel_rfl) Tryd.func3 rfl Tryd.underlying4 (by kernel_rfl) rfl
    (ChangeSpec.witness_shaped (enc := enc) (C := Tryd.checked) (os := os) (X := fun w _ => laidMetH Tryd.prog laid1 w) false (World.doorLaid Tryd.prog 400 os) #[.slice none 0 0, .int .i64 0, .int .u32 0] 8 rfl (World.shaped_of_RefB (by kernel_rfl) (by kernel_rfl)) (by kernel_rfl) (by kernel_rfl) (by kernel_rfl) (door_met os _)) ?_
  intro W base args ds p hval0 hA0 hL hsz0
  have hT := tab_of_laid hL
  have hval : ∀ (j : Nat) t v, Tryd.f3.params[j]? = some t → args[j]? = some v → Value.okWide Tryd.prog W .any base t v := hval0
  have hA : DataW.TrodAll enc Tryd.prog W 0 (fun _ => true) true Tryd.f3.params.toList args ds p := hA0
  have hsz : (DataW.weightsEach Tryd.prog Tryd.f3.params.toList ds).all (· ≤ reachBytes) = true := hsz0
  rw [Tryd.params3] at hA hval hsz
  obtain ⟨v0, vs0, d0, ds0, p0, q0, rfl, rfl, rfl, h0, r0⟩ := trodAll_cons hA
  obtain ⟨v1, vs1, d1, ds1, p1, q1, rfl, rfl, rfl, h1, r1⟩ := trodAll_cons r0
  obtain ⟨v2, vs2, d2, ds2, p2, q2, rfl, rfl, rfl, h2, r2⟩ := trodAll_cons r1
  obtain ⟨rfl, rfl, rfl⟩ := trodAll_nil r2
  obtain ⟨A0, c0, l0, rfl, s0, rb0, ba0⟩ := open_bytes_arg (hval 0 _ v0 rfl rfl) h0 (fun n hn => of_decide_eq_true (List.all_eq_true.1 hsz n (DataW.weights_mem_each (j := 0) rfl rfl n hn)))
  obtain ⟨z1, rfl, rfl, rfl, wz1⟩ := open_int Tryd.underlying3 (hval 1 _ v1 rfl rfl) h1
  obtain ⟨z2, rfl, rfl, rfl, wz2⟩ := open_int Tryd.underlying23 (hval 2 _ v2 rfl rfl) h2
  obtain ⟨m, rfl⟩ := u32_bits wz2
  have hat : -9223372036854775808 ≤ z1 ∧ z1 ≤ 9223372036854775807 := by simpa [Lit.wf, IntKind.min, IntKind.max, IntKind.signed, IntKind.bits] using wz1
  exact ⟨rfl, bursts_any l0 ba0 A0 c0 z1 hat m W s0 hT⟩
end Go.Proofs.YtgpfjeoomaadoaaDoor.Crc
namespace Go.Proofs.YtgpfjeoomaadoaaDoor
open Go
theorem crcBursts_row_holds : Rows.CrcBurstsSaid :=
  OpenClaim.holds_of_wide 3 Tryd.f3 rfl rfl rfl rfl rfl rfl rfl ⟨rfl, rfl, rfl, rfl, rfl⟩ rfl rfl rfl rfl rfl (by kernel_rfl) Tryd.func3 (by kernel_rfl)
    (of_decide_eq_true (by kernel_rfl)) (by unfold Func.isWrapper; first | (rw [if_pos (by decide +kernel)]; kernel_rfl) | (rw [if_neg (by decide +kernel)]; exact ⟨rfl, rfl⟩))
    (fun os started H enc _ => Crc.crcBursts_lifted os started H enc)
/-- The tied card, for the claim. -/
theorem crcBursts_holds : Rows.CrcBurstsCardSaid :=
  Claim7.holds_tied_plain_at .later [] [.data] true (true, "75be230791ff53a6ccd777d8efb0dfc2dfc13b100478d9e89f2cfa8ceee68e97") false
    crcBursts_row_holds (fun _ h => by cases h) (by kernel_rfl) (fun _ h => by cases h) crcBursts_row_tie rfl ⟨rfl, rfl⟩ (by kernel_rfl) rfl
    (fun f fn hf hfn => by
      obtain rfl : f = 3 := Option.some.inj ((show Tryd.prog.funcNamed "floodgate/floodgatelaw03.CrcBursts" = some 3 by kernel_rfl).symm.trans hf) |>.symm
      obtain rfl : fn = Tryd.f3 := (Option.some.inj (Tryd.func3.symm.trans hfn)).symm
      exact ⟨by kernel_rfl, fun j t ht => by
        rw [Tryd.params3] at ht
        have hm : t ∈ [22, 3, 23] := by simpa using Array.mem_of_getElem? ht
        have hall : ([22, 3, 23].all fun u => !Tryd.prog.wantsStandIn u) = true := by kernel_rfl
        exact (show Tryd.prog.wantsStandIn t = false by simpa using List.all_eq_true.1 hall t hm)⟩)
    (by kernel_rfl)
#print axioms crcBursts_holds
end Go.Proofs.YtgpfjeoomaadoaaDoor
