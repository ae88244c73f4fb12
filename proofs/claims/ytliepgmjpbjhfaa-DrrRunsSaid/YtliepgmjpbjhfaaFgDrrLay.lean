/- The library's contracts, laid at this program. There are no conditions. -/
import Derived.Test.YtliepgmjpbjhfaaFgMem
import Derived.Shelf.Slices.Delete
import Derived.Shelf.Slices.Clone
import Derived.Shelf.Slices.Turned
import Derived.Shelf.Spec.BitsCarry
set_option linter.unusedVariables false
namespace Go.Proofs.Ytliepgmjpbjhfaa.Drr
open Go.RowKit Go.Proofs.Ytliepgmjpbjhfaa.Fg Go.Shelf

def rho : Ren := ⟨fun | 15 => 32 | 23 => 42 | 25 => 41 | 107 => 28 | 108 => 40 | _ => 0,
  fun | 0 => 0 | 3 => 3 | 4 => 4 | 22 => 38 | 28 => 38 | _ => 0, fun x => x⟩
def rho7 : Ren := ⟨fun | 25 => 41 | _ => 0, fun | 22 => 24 | _ => 0, fun x => x⟩
set_option maxRecDepth 100000 in
theorem layDelete : Lays2.n23 Try.prog rho where
  mixed := by kernel_rfl
  f23 := by kernel_rfl
  t0 := by kernel_rfl
  a0 := fun w => by kernel_rfl
  z0 := fun w => by kernel_rfl
  v0 := fun w => by kernel_rfl
  t3 := by kernel_rfl
  a3 := fun w => by kernel_rfl
  z3 := fun w => by kernel_rfl
  v3 := fun w => by kernel_rfl
  t4 := by kernel_rfl
  a4 := fun w => by kernel_rfl
  z4 := fun w => by kernel_rfl
  v4 := fun w => by kernel_rfl
  t22 := by kernel_rfl
  a22 := fun w => by kernel_rfl
  z22 := fun w => by kernel_rfl
  v22 := fun w => by kernel_rfl
  i3 := by kernel_rfl
set_option maxRecDepth 100000 in
theorem layClone : Lays2.n15 Try.prog rho where
  mixed := by kernel_rfl
  f15 := by kernel_rfl
  t3 := by kernel_rfl
  a3 := fun w => by kernel_rfl
  z3 := fun w => by kernel_rfl
  v3 := fun w => by kernel_rfl
  t4 := by kernel_rfl
  a4 := fun w => by kernel_rfl
  z4 := fun w => by kernel_rfl
  v4 := fun w => by kernel_rfl
  t22 := by kernel_rfl
  a22 := fun w => by kernel_rfl
  z22 := fun w => by kernel_rfl
  v22 := fun w => by kernel_rfl
  i3 := by kernel_rfl
set_option maxRecDepth 100000 in
theorem layContains : Lays.n107 Try.prog rho where
  mixed := by kernel_rfl
  f107 := by kernel_rfl
  f108 := by kernel_rfl
  t0 := by kernel_rfl
  a0 := fun w => by kernel_rfl
  z0 := fun w => by kernel_rfl
  v0 := fun w => by kernel_rfl
  t3 := by kernel_rfl
  a3 := fun w => by kernel_rfl
  z3 := fun w => by kernel_rfl
  v3 := fun w => by kernel_rfl
  t4 := by kernel_rfl
  a4 := fun w => by kernel_rfl
  z4 := fun w => by kernel_rfl
  v4 := fun w => by kernel_rfl
  t28 := by kernel_rfl
  a28 := fun w => by kernel_rfl
  z28 := fun w => by kernel_rfl
  v28 := fun w => by kernel_rfl
set_option maxRecDepth 100000 in
theorem layAdd : Lays7.n25 Try.prog rho7 where
  mixed := by kernel_rfl
  f25 := by kernel_rfl
  t22 := by kernel_rfl
  a22 := fun w => by kernel_rfl
  z22 := fun w => by kernel_rfl
  v22 := fun w => by kernel_rfl
  i22 := by kernel_rfl
end Go.Proofs.Ytliepgmjpbjhfaa.Drr
