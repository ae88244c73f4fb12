/- The words of a region whose last store changes one cell of a block. General; no conditions beyond each lemma's own hypotheses. -/
import Derived.Test.YtliepgmjpbjhfaaFgWords3
set_option linter.unusedVariables false
set_option linter.unusedSimpArgs false
namespace Go.Proofs.Ytliepgmjpbjhfaa.Fg
open Go.RowKit

/-- Operation ks stores into cell j of block g; the others do nothing. -/
def CutE (g j ks : Nat) (k : Nat) (w w' : World) : Prop := if k = ks then ∃ v, w' = w.setCell ⟨g, j, none⟩ v else w' = w
def CutI (w2 : World) (g ks : Nat) (d : Nat → Bool) (w : World) : Prop := Keep (fun b => b = g) w2 w ∧ (d ks = false → w.heap[g]? = w2.heap[g]?)
def CutD (w2 : World) (g j : Nat) (T : TypeId) (cs : Array Value) (u0 : Value) (u : Value) (w : World) : Prop := w.heap[g]? = some (.cells (cs.setIfInBounds j u0) T (0, 0)) ∧ Keep (fun b => b = g) w2 w
section
variable {w2 w w' : World} {g j ks : Nat} {T : TypeId} {cs : Array Value} {d : Nat → Bool} {D : List (List Nat)} {u0 : Value}
/-- What need not come behind an operation is not done before it. -/
theorem undone (hcl : ∀ j, d j = true → ∀ x ∈ D.getD j [], d x = true) {k q : Nat} (hk : d k = false) (hq : k ∈ D.getD q []) : d q = false := by
  cases h : d q with
  | false => rfl
  | true => rw [hcl q h k hq] at hk; cases hk
theorem cutI_start : CutI w2 g ks (fun _ => false) w2.drew := ⟨(Keep.refl _ _).drew, fun _ => rfl⟩
theorem CutI.cell (h : CutI w2 g ks d w) (hd : d ks = false) (hc : w2.heap[g]? = some (.cells cs T (0, 0))) (i : Nat) : w.cell? ⟨g, i, none⟩ = cs[i]? := cell_of_block ((h.2 hd).trans hc) i
theorem CutI.free (h : CutI w2 g ks d w) (hd : d ks = false) (hc : w2.heap[g]? = some (.cells cs T (0, 0))) (i : Nat) : w.frozen? ⟨g, i, none⟩ = false := free_of_block ((h.2 hd).trans hc) i
theorem CutI.set {k : Nat} (h : CutI w2 g ks d w) (hs : ks = k) (u : Value) : CutI w2 g ks (fun j => if j = k then true else d j) (w.setCell ⟨g, j, none⟩ u) :=
  ⟨h.1.setCell _ _ (fun _ => rfl), fun hd => by subst hs; simp at hd⟩
theorem CutI.pass {k : Nat} (h : CutI w2 g ks d w) : CutI w2 g ks (fun j => if j = k then true else d j) w :=
  ⟨h.1, fun hd => h.2 (by by_cases hk : ks = k <;> simp_all)⟩
theorem cutD_at (h : CutI w2 g ks d w) (hd : d ks = false) (hc : w2.heap[g]? = some (.cells cs T (0, 0))) (u : Value) : CutD w2 g j T cs u0 u (w.setCell ⟨g, j, none⟩ u0) :=
  ⟨hset_at w g j u0 ((h.2 hd).trans hc), h.1.setCell _ _ (fun _ => rfl)⟩
theorem cutD_stand {p : Nat} (hp : ks = p) : ∀ (k : Nat) (u : Value) (w w' : World), k ≠ p → k ∉ D.getD p [] → CutD w2 g j T cs u0 u w → CutE g j ks k w w' → CutD w2 g j T cs u0 u w' := by
  subst hp
  rintro k u w w' hk - h hE
  unfold CutE at hE
  rw [if_neg hk] at hE
  exact hE ▸ h
end
end Go.Proofs.Ytliepgmjpbjhfaa.Fg
