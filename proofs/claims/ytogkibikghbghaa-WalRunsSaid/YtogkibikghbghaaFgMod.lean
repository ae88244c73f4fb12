/- Counting down around a circle. Plain. -/
import Derived.Test.YtogkibikghbghaaFgArea
namespace Go.Proofs.Ytogkibikghbghaa.Ref09
open Go.RowKit Go.Proofs.Ytogkibikghbghaa.Fg Go.Proofs.Ytogkibikghbghaa.Area

theorem mod_dec {a b n : Int} (hn : 0 < n) (ha : 0 ≤ a) (ha' : a < n) (hb : 0 ≤ b) (hb' : b < n) (hne : ¬ a = b) : (b - (a + 1) % n) % n = (b - a) % n - 1 := by
  have e : (a + 1) % n = if a = n - 1 then 0 else a + 1 := by
    split
    · rename_i hh; rw [hh, Int.sub_add_cancel, Int.emod_self]
    · exact Int.emod_eq_of_lt (by omega) (by omega)
  have f : ∀ x : Int, -n < x → x < n → x % n = if x < 0 then x + n else x := by
    intro x h1 h2
    split
    · rw [← Int.add_emod_right]; exact Int.emod_eq_of_lt (by omega) (by omega)
    · exact Int.emod_eq_of_lt (by omega) (by omega)
  rw [e]
  split
  · rw [f _ (by omega) (by omega), f _ (by omega) (by omega)]; split <;> split <;> omega
  · rw [f _ (by omega) (by omega), f _ (by omega) (by omega)]; split <;> split <;> omega
end Go.Proofs.Ytogkibikghbghaa.Ref09
