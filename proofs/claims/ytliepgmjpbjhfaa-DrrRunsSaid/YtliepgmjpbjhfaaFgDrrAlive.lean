/- Contract of the drr laws' first question. There are no conditions. -/
import Derived.Test.YtliepgmjpbjhfaaFgDrrSet
set_option linter.unusedVariables false
set_option linter.unusedSimpArgs false
namespace Go.Proofs.Ytliepgmjpbjhfaa.Drr
open Go.RowKit Go.Proofs.Ytliepgmjpbjhfaa.Fg Go.Shelf Go.Maps

def a0 : Sc := Sc.new
def a1 : Sc := a0.set 3 5
def a2 : Sc := a1.set 4 10
def a3 : Sc := a2.wake 3
def a4 : Sc := a3.wake 4
def a5 : Sc := a4.front
def a6 : Sc := a5.leave true true
def a7 : Sc := a6.front
def a8 : Sc := a7.spend 7
theorem y1 : a0.setE 3 5 = 0 ∧ a1.setE 4 10 = 0 ∧ a2.wakeE 3 = 0 ∧ a3.wakeE 4 = 0 ∧ a5.leaveB = true ∧ a7.spendB 7 = true ∧ a8.spendB 4 = false := by decide +kernel
theorem y2 : a4.frontV = .tuple #[.int .i64 3, .int .u64 5, .bool true] := by kernel_rfl
theorem y3 : a6.frontV = .tuple #[.int .i64 4, .int .u64 10, .bool true] := by kernel_rfl
theorem new_ds {W w w' : World} (hb : Below W.heap.size W w) {sb : Nat} {F : Nat → Prop} (h : IsSc w' sb Sc.new F) (hb2 : Below w.heap.size w w') (hF : ∀ k, F k → w.heap.size ≤ k) : DS W w' sb Sc.new F :=
  ⟨h, hb.trans (hb2.mono hb.size), fun k hk => Nat.le_trans hb.size (hF k hk)⟩
set_option maxRecDepth 100000 in
set_option maxHeartbeats 2000000 in
theorem alive_any (W : World) : Calls Try.prog 8 #[] W fun e w' => e = .returned (.bool true) ∧ Below W.heap.size W w' := by
  go_enter Try.func8, Try.ntmps8
  go_wp2_with fail
  refine (new_any W).mono ?_
  rintro e w1 ⟨sb, F1, rfl, h1, b1, f1⟩
  have L1 : Hid (DS W w1 sb a0 F1) := Lib.hid (new_ds (Below.refl _ _) h1 b1 f1)
  clear h1 b1 f1
  go_wp2_with fail
  refine (set_any L1.out.1 3 5 (by decide) (by decide)).mono ?_
  rintro e w2 ⟨rfl, t⟩
  obtain ⟨F2, l2⟩ := L1.out.turn t
  have L2 : Hid (DS W w2 sb a1 F2) := Lib.hid l2
  rw [y1.1]
  clear t l2
  go_wp2_with fail
  refine (set_any L2.out.1 4 10 (by decide) (by decide)).mono ?_
  rintro e w3 ⟨rfl, t⟩
  obtain ⟨F3, l3⟩ := L2.out.turn t
  have L3 : Hid (DS W w3 sb a2 F3) := Lib.hid l3
  rw [y1.2.1]
  clear t l3
  go_wp2_with fail
  refine (wake_any L3.out.1 3 (by decide)).mono ?_
  rintro e w4 ⟨rfl, t⟩
  obtain ⟨F4, l4⟩ := L3.out.turn t
  have L4 : Hid (DS W w4 sb a3 F4) := Lib.hid l4
  rw [y1.2.2.1]
  clear t l4
  go_wp2_with fail
  refine (wake_any L4.out.1 4 (by decide)).mono ?_
  rintro e w5 ⟨rfl, t⟩
  obtain ⟨F5, l5⟩ := L4.out.turn t
  have L5 : Hid (DS W w5 sb a4 F5) := Lib.hid l5
  rw [y1.2.2.2.1]
  clear t l5
  go_wp2_with fail
  refine (front_any L5.out.1).mono ?_
  rintro e w6 ⟨rfl, t⟩
  obtain ⟨F6, l6⟩ := L5.out.turn t
  have L6 : Hid (DS W w6 sb a5 F6) := Lib.hid l6
  rw [y2]
  clear t l6
  go_wp2_with fail
  refine (next_any L6.out.1).mono ?_
  rintro e w7 ⟨rfl, t⟩
  obtain ⟨F7, l7⟩ := L6.out.turn t
  have L7 : Hid (DS W w7 sb a6 F7) := Lib.hid l7
  rw [y1.2.2.2.2.1]
  clear t l7
  go_wp2_with fail
  refine (front_any L7.out.1).mono ?_
  rintro e w8 ⟨rfl, t⟩
  obtain ⟨F8, l8⟩ := L7.out.turn t
  have L8 : Hid (DS W w8 sb a7 F8) := Lib.hid l8
  rw [y3]
  clear t l8
  go_wp2_with fail
  refine (spend_any L8.out.1 7 (by decide)).mono ?_
  rintro e w9 ⟨rfl, t⟩
  obtain ⟨F9, l9⟩ := L8.out.turn t
  have L9 : Hid (DS W w9 sb a8 F9) := Lib.hid l9
  rw [y1.2.2.2.2.2.1]
  clear t l9
  go_wp2_with fail
  refine (spend_any L9.out.1 4 (by decide)).mono ?_
  rintro e w10 ⟨rfl, t⟩
  obtain ⟨F10, l10⟩ := L9.out.turn t
  have B10 := Lib.hid l10.2.1
  rw [y1.2.2.2.2.2.2]
  clear t l10
  go_wp2_with fail
  go_ret
  exact ⟨rfl, B10.out⟩
end Go.Proofs.Ytliepgmjpbjhfaa.Drr
