/- Sectors as values: arrays of sixty-four bytes. Conditions: none beyond each lemma's own hypotheses. -/
import Derived.Test.YtogkibikghbghaaFgArr
set_option linter.unusedVariables false
set_option linter.unusedSimpArgs false
namespace Go.Proofs.Ytogkibikghbghaa.Disk
open Go.RowKit Go.Proofs.Ytogkibikghbghaa.Fg

/-- A sector of noughts. -/
def noSec : List Int := List.replicate 64 0
/-- Sectors as cells. -/
def sv (l : List (List Int)) : List (List Value) := l.map bv
theorem sv_len {l : List (List Int)} (h : ∀ s ∈ l, s.length = 64) : ∀ r ∈ sv l, r.length = 64 := by
  intro r hr
  obtain ⟨s, hs, rfl⟩ := List.mem_map.1 hr
  rw [bv_length, h s hs]
theorem secZero : (Try.prog.info? 77).map (·.zero) = some (some (.agg (bv noSec).toArray)) := by kernel_rfl
theorem secSize : (Try.prog.info? 77).map (·.size) = some 64 := by kernel_rfl
theorem secInfo : (Try.prog.info? 77).map (fun i => (i.zero, i.size, i.bytes)) = some (some (.agg (bv noSec).toArray), (bv noSec).length, 64) := by kernel_rfl
theorem secInfo' : (Try.prog.info? 77).map (fun i => (i.zero, i.size, i.bytes)) = some (some (.agg (bv noSec).toArray), 64, 64) := by kernel_rfl
theorem secUnder : Try.prog.underlying 77 = some (.array 64 5) := Try.underlying77

theorem secBuilt0 : Try.prog.built 77 [] = some (bv noSec).toArray := built_array secZero secUnder (by kernel_rfl : (Try.prog.info? 5).map (·.size) = some 1) []
theorem sec_toArray {s : List Int} (h : s.length = 64) : (Try.prog.info? 77).map (·.size) = some (bv s).toArray.size := by
  rw [secSize]; simp [bv, h]
theorem noSec64 : noSec.length = 64 := by simp [noSec]
theorem sec_one (s : List Int) : (bv s).toArray.all (·.oneCell') = true := all_oneCell_toArray (bv_one s)
end Go.Proofs.Ytogkibikghbghaa.Disk
