/- Writes to a disk that does not lose power. No program in sight. -/
import Derived.Test.YtogkibikghbghaaFgWalAlive
set_option linter.unusedVariables false
set_option linter.unusedSimpArgs false
namespace Go.Proofs.Ytogkibikghbghaa.Wal
open Go.RowKit Go.Proofs.Ytogkibikghbghaa.Fg Go.Proofs.Ytogkibikghbghaa.Frame Go.Proofs.Ytogkibikghbghaa.Disk Go.Proofs.Ytogkibikghbghaa.Area

/-- A disk that will not lose power. -/
structure Live (d : Dk) : Prop where
  up : d.down = false
  left : d.left = -1
theorem Live.actE {d : Dk} (h : Live d) : d.actE = 0 := by simp [Dk.actE, h.up, h.left]
theorem Live.act {d : Dk} (h : Live d) : d.act = d := by simp [Dk.act, h.up, h.left]
theorem Live.put {d : Dk} (h : Live d) {i : Int} (hi : d.there i = true) (s : List Int) : d.put i s = { d with pd := d.pd ++ [(i.toNat, s)] } := by
  rw [Dk.put, if_pos hi, if_pos h.actE, h.act]
theorem Live.putE {d : Dk} (h : Live d) {i : Int} (hi : d.there i = true) : d.putE i = 0 := by rw [Dk.putE, if_pos hi]; exact h.actE
theorem Live.live {d : Dk} (h : Live d) (i : Int) (s : List Int) : Live (d.put i s) := by
  by_cases hi : d.there i = true
  · rw [h.put hi]; exact ⟨h.up, h.left⟩
  · rw [Dk.put, if_neg hi]; exact h
theorem Live.read {d : Dk} (h : Live d) {i : Int} (hi : d.there i = true) (s : List Int) (j : Int) : (d.put i s).read j = if j = i then s else d.read j := by
  have h0 : 0 ≤ i ∧ i < (d.st.length : Int) := by simpa [Dk.there] using hi
  rw [h.put hi]
  unfold Dk.read
  have ht : Dk.there { d with pd := d.pd ++ [(i.toNat, s)] } j = d.there j := rfl
  rw [ht]
  by_cases hj : d.there j = true
  · rw [if_pos hj, if_pos hj, Dk.last_snoc]
    by_cases e : j = i
    · rw [if_pos e, if_pos (by show ((i.toNat : Nat) : Int) = j; omega)]
    · rw [if_neg e, if_neg (by show ¬ ((i.toNat : Nat) : Int) = j; omega)]
  · have hne : ¬ j = i := fun e => hj (by rw [e]; exact hi)
    rw [if_neg hj, if_neg hj, if_neg hne]
theorem Live.all : ∀ (r : List (List Int)) (d : Dk) (i : Int), Live d → 0 ≤ i → i + r.length ≤ d.st.length →
    putAllE d i r = 0 ∧ Live (putAll d i r) ∧ ∀ j, (putAll d i r).read j = if i ≤ j ∧ j < i + r.length then r.getD (j - i).toNat noSec else d.read j
  | [], d, i, h, h0, h1 => ⟨rfl, h, fun j => by rw [if_neg (by simp only [List.length_nil]; omega)]; rfl⟩
  | s :: r, d, i, h, h0, h1 => by
    have hi : d.there i = true := by
      simp only [List.length_cons] at h1
      simp only [Dk.there, Bool.and_eq_true, decide_eq_true_eq]; omega
    have hst : (d.put i s).st = d.st := put_st d i s
    obtain ⟨a1, a2, a3⟩ := Live.all r (d.put i s) (i + 1) (h.live i s) (by omega) (by rw [hst]; simp only [List.length_cons] at h1; omega)
    rw [putAll, putAllE, if_pos (h.putE hi), if_pos (h.putE hi)]
    refine ⟨a1, a2, fun j => ?_⟩
    rw [a3 j, h.read hi]
    simp only [List.length_cons]
    by_cases e : j = i
    · subst e
      rw [if_neg (by omega), if_pos rfl, if_pos (by omega), Int.sub_self]
      rfl
    · rw [if_neg e]
      by_cases hj : i + 1 ≤ j ∧ j < i + 1 + r.length
      · rw [if_pos hj, if_pos (by omega), show (j - i).toNat = (j - (i + 1)).toNat + 1 by omega]
        rfl
      · rw [if_neg hj, if_neg (by omega)]
end Go.Proofs.Ytogkibikghbghaa.Wal
