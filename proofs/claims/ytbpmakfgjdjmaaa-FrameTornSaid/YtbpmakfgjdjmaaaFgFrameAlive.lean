/- Contract of the frame laws' first question, and the law FrameNames. There are no conditions. -/
import Derived.Test.YtbpmakfgjdjmaaaFgFrameBackPure
set_option linter.unusedVariables false
set_option linter.unusedSimpArgs false
namespace Go.Proofs.Ytbpmakfgjdjmaaa.Frame
open Go.RowKit Go.Proofs.Ytbpmakfgjdjmaaa.Fg Go.Proofs.Ytbpmakfgjdjmaaa.Crc Go.Proofs.Ytbpmakfgjdjmaaa.Disk

def exR : Rec := ⟨5, 2, [104, 105]⟩
theorem exR_ok : exR.ok := ⟨by decide, by decide, by decide, by decide, by unfold Small; decide⟩
theorem exR_good : exR.good := ⟨by decide, by decide⟩
set_option maxRecDepth 100000 in
set_option maxHeartbeats 1000000 in
theorem alive_any (w : World) : Calls Try.prog 11 #[] w fun e w' => e = .returned (.bool true) ∧ Below w.heap.size w w' := by
  have kc := fun (w : World) (C : Array Value) (n c : Nat) => Lib.run_convert_bytes_const (P := Try.prog) w 28 5 C n c Try.underlying28 Try.underlying5
  have HO := Lib.hid (made_opens0 exR_ok exR_good)
  have HE : Hid (exR.err = 0) := Lib.hid (if_pos exR_good)
  have HM : Hid (exR.many = 1) := Lib.hid (by rw [Rec.many_of exR_good.1]; rfl)
  have HL : Hid (exR.made.length = 1) := Lib.hid (by rw [Rec.made_length exR_good, HM.out])
  go_enter Try.func11, Try.ntmps11
  go_wp2_with fail
  have q1 := src_at (w := w) rfl [104, 105] (2, 3) (by decide)
  have B1 : Hid (Below w.heap.size w (w.alloc (.cells (bv [104, 105]).toArray 5 (2, 3)))) := Lib.hid ((Below.refl _ _).alloc (Nat.le_refl _) _)
  have MK := Lib.hid (make_any exR exR_ok (by decide) _ _ _ q1)
  clear q1
  refine MK.out.mono ?_
  rintro e w1 ⟨A1, c1, rfl, ho1, hb1⟩
  rw [HE.out]
  have SO := Lib.hid (SecsAt.of_own ho1 (Rec.made_secs exR_ok.small))
  have B2 : Hid (Below w.heap.size w w1) := Lib.hid (B1.out.trans (hb1.mono (by simp)))
  have OP := fopen_any exR.made A1 c1 w1 SO.out (by rw [HL.out]; decide)
  rw [HL.out] at OP ⊢
  have OP := Lib.hid OP
  clear ho1 hb1 MK
  go_wp2_with fail
  refine OP.out.mono ?_
  rintro e w2 ⟨A2, c2, rfl, hs2, hb2⟩
  rw [HO.out.2.1, HO.out.2.2, decide_eq_true HO.out.1, HM.out]
  rw [HO.out.2.1] at hs2
  have B3 : Hid (Below w.heap.size w w2) := Lib.hid (B2.out.trans (hb2.mono B2.out.size))
  have B4 : Hid (Below w.heap.size w (w2.alloc (.cells #[.int .u64 5, .int .u32 2, .slice A2 2 c2] 30))) := Lib.hid (B3.out.alloc B3.out.size _)
  have ts : (convert 28 9 (.slice A2 2 c2)).run Try.prog (w2.alloc (.cells #[.int .u64 5, .int .u32 2, .slice A2 2 c2] 30)) = .ok (.string (strOfNums [104, 105])) (w2.alloc (.cells #[.int .u64 5, .int .u32 2, .slice A2 2 c2] 30)) :=
    str_run [104, 105] A2 c2 _ (hs2.same fun ad had hne => heap_alloc_old _ _ (hs2.lt had hne))
  have tl : (strOfNums [104, 105]).toList = [104, 105] := by decide +kernel
  clear hs2 hb2
  simp only [recv, exR, List.length_cons, List.length_nil, Nat.zero_add]
  go_wp2_with fail
  refine (size_any 0 (by decide) _).mono ?_
  rintro e w3 ⟨rfl, rfl⟩
  rw [show secs 0 = 1 from rfl]
  go_wp2_with fail
  go_ret
  exact ⟨rfl, B4.out⟩

theorem noRec_bad : ¬ noRec.good := fun h => h.2 rfl
set_option maxRecDepth 100000 in
set_option maxHeartbeats 1000000 in
theorem names_any (w : World) : Calls Try.prog 3 #[] w fun e w' => e = .returned (.bool true) ∧ Below w.heap.size w w' := by
  have hmk := fun u => make_secs 3 (by decide) u
  simp only [show ((3 : Nat) : Int) = 3 from rfl] at hmk
  have HMK := Lib.hid hmk
  clear hmk
  have MK := make_any noRec noRec_ok (by decide) none 0 w ⟨fun _ => ⟨rfl, rfl⟩, Nat.le_refl _, by simp [maxLen], fun _ h => by cases h⟩
  simp only [recv, noRec, List.length_nil] at MK
  have MK := Lib.hid MK
  have HE : Hid (noRec.err = 81 ∧ noRec.made.length = 0) := Lib.hid ⟨if_neg noRec_bad, by rw [Rec.made_nil noRec_bad]; rfl⟩
  have HSE : Hid (Secs (List.replicate 3 noSec)) := Lib.hid ⟨fun s hs => by rw [(List.mem_replicate.1 hs).2]; exact noSec64, fun s hs => by
    rw [(List.mem_replicate.1 hs).2]
    intro x hx
    rw [(List.mem_replicate.1 hx).2]; omega⟩
  have HN : Hid (¬ isRec (List.replicate 3 noSec)) := Lib.hid (fun h => h.2.2.2.1 (by decide +kernel))
  go_enter Try.func3, Try.ntmps3
  go_wp2_with fail
  refine MK.out.mono ?_
  rintro e w1 ⟨A1, c1, rfl, -, hb1⟩
  rw [show (⟨0, 0, []⟩ : Rec).err = 81 from HE.out.1, show (⟨0, 0, []⟩ : Rec).made.length = 0 from HE.out.2]
  have B1 := Lib.hid hb1
  have hmk := HMK.out
  have SS : Hid (SecsAt (w1.alloc (.cells (List.replicate 3 (bv noSec)).flatten.toArray 44)) (some ⟨w1.heap.size, 0, none⟩) 3 (List.replicate 3 noSec)) := Lib.hid (by
    refine ⟨?_, fun _ ad had => ⟨_, _, (Option.some.inj had).symm⟩, HSE.out⟩
    have e : sv (List.replicate 3 noSec) = List.replicate 3 (bv noSec) := List.map_replicate
    rw [e]
    exact src_rows w1 _ _ 3 (by simp [maxLen]))
  have OP := fopen_any (List.replicate 3 noSec) _ 3 _ SS.out (by simp)
  rw [List.length_replicate] at OP
  have OP := Lib.hid OP
  have B2 : Hid (Below w.heap.size w (w1.alloc (.cells (List.replicate 3 (bv noSec)).flatten.toArray 44))) := Lib.hid (B1.out.alloc B1.out.size _)
  clear hb1 MK
  go_wp2_with fail
  clear hmk
  refine OP.out.mono ?_
  rintro e w2 ⟨A2, c2, rfl, -, hb2⟩
  rw [openedR, openedN, if_neg HN.out, if_neg HN.out, decide_eq_false HN.out]
  have B3 : Hid (Below w.heap.size w w2) := Lib.hid (B2.out.trans (hb2.mono B2.out.size))
  clear hb2
  simp only [recv, noRec, List.length_nil]
  have B4 : Hid (Below w.heap.size w (w2.alloc (.cells #[.int .u64 0, .int .u32 0, .slice A2 0 c2] 30))) := Lib.hid (B3.out.alloc B3.out.size _)
  go_upto_region 3 with fail
  generalize w2.alloc (.cells #[.int .u64 0, .int .u32 0, .slice A2 0 c2] 30) = w3 at *
  go_wp2_with fail
  refine (alive_any w3).mono ?_
  rintro e w4 ⟨rfl, hb4⟩
  have B5 : Hid (Below w.heap.size w w4) := Lib.hid (B4.out.trans (hb4.mono B4.out.size))
  clear hb4
  go_wp2_with fail
  refine (size_any 46 (by decide) _).mono ?_
  rintro e w5 ⟨rfl, rfl⟩
  rw [show secs 46 = 1 from rfl]
  go_wp2_with fail
  refine (size_any 47 (by decide) _).mono ?_
  rintro e w5 ⟨rfl, rfl⟩
  rw [show secs 47 = 2 from rfl]
  go_wp2_with fail
  refine (size_any 700 (by decide) _).mono ?_
  rintro e w5 ⟨rfl, rfl⟩
  rw [show secs 700 = 12 from rfl]
  go_wp2_with fail
  refine (size_any 701 (by decide) _).mono ?_
  rintro e w5 ⟨rfl, rfl⟩
  rw [show secs 701 = 0 from rfl]
  go_wp2_with fail
  refine (size_any (-1) (by decide) _).mono ?_
  rintro e w5 ⟨rfl, rfl⟩
  rw [show secs (-1) = 0 from rfl]
  go_wp2_with fail
  go_ret
  exact ⟨rfl, B5.out⟩
end Go.Proofs.Ytbpmakfgjdjmaaa.Frame
