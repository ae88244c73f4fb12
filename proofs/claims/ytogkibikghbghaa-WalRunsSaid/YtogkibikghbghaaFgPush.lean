/- What 'x.f = append(x.f, ..)' through a pointer does, in a region that draws its order: the words and effects of its operations. General; no conditions beyond each lemma's own hypotheses. -/
import Derived.Test.YtogkibikghbghaaFgWords3
import Derived.Test.YtogkibikghbghaaFgArr
set_option linter.unusedVariables false
namespace Go.Proofs.Ytogkibikghbghaa.Fg
open Go.RowKit

/-- What each operation does: ka lays the new elements, kp appends, ks stores; all others leave the world. -/
def PushE (g j : Nat) (vp : Value) (ka kp ks : Nat) (k : Nat) (w w' : World) : Prop :=
  if k = ka then ∃ o, w' = w.alloc o else if k = kp then Keep (fun b => vp.ownBlock = some b) w w' else if k = ks then ∃ v, w' = w.setCell ⟨g, j, none⟩ v else w' = w
/-- New elements, laid in a block that is new. -/
def LitAt (B n : Nat) (news : List Value) (u : Value) (w : World) : Prop := ∃ p, u = .slice (some ⟨p, 0, none⟩) n n ∧ B ≤ p ∧ Src w (some ⟨p, 0, none⟩) n n news
/-- The appended row. -/
def PushW (B : Nat) (vp : Value) (e : TypeId) (size n : Nat) (xs : List Value) (u : Value) (w : World) : Prop := w.ownsRow 0 e size u n xs ∧ ∀ k, u.ownBlock = some k → vp.ownBlock = some k ∨ B ≤ k
/-- It is stored. -/
def PushD (B g j : Nat) (T : TypeId) (cs : Array Value) (vp : Value) (e : TypeId) (size n : Nat) (xs : List Value) (u : Value) (w : World) : Prop := ∃ v', PushW B vp e size n xs v' w ∧ w.heap[g]? = some (.cells (cs.setIfInBounds j v') T (0, 0))
def PushI (w2 : World) (g : Nat) (vp : Value) (e : TypeId) (size n : Nat) (xs : List Value) (kp ks : Nat) (d : Nat → Bool) (w : World) : Prop :=
  Keep (fun b => vp.ownBlock = some b ∨ b = g) w2 w ∧ (d kp = false → w.ownsRow 0 e size vp n xs) ∧ (d ks = false → w.heap[g]? = w2.heap[g]?)

section
variable {w2 w w' : World} {g j n m : Nat} {vp : Value} {ka kp ks : Nat} {e T : TypeId} {size : Nat} {xs news : List Value} {cs : Array Value} {d : Nat → Bool} {D : List (List Nat)}

theorem PushE.keep {k : Nat} (h : PushE g j vp ka kp ks k w w') : Keep (fun b => vp.ownBlock = some b ∨ b = g) w w' := by
  unfold PushE at h
  split at h
  · obtain ⟨o, rfl⟩ := h; exact (Keep.refl _ _).alloc _
  · split at h
    · exact h.mono fun i _ hi => .inl hi
    · split at h
      · obtain ⟨v, rfl⟩ := h; exact (Keep.refl _ _).setCell _ _ (fun _ => .inr rfl)
      · subst h; exact Keep.refl _ _
theorem litAt_stand (hg : g < w2.heap.size) (hv : ∀ k, vp.ownBlock = some k → k < w2.heap.size) {q : Nat} : ∀ (k : Nat) (u : Value) (w w' : World), k ≠ q → k ∉ D.getD q [] → LitAt w2.heap.size n news u w → PushE g j vp ka kp ks k w w' → LitAt w2.heap.size n news u w' := by
  rintro k u w w' - - ⟨p, rfl, hp, hs⟩ hE
  refine ⟨p, rfl, hp, hs.keep hE.keep (fun ad had => ?_)⟩
  injection had with had
  subst had
  rintro (h | h)
  · have := hv _ h; simp only at this; omega
  · simp only at h; omega
theorem pushW_stand (hne : ∀ k, vp.ownBlock = some k → k ≠ g) (hg : g < w2.heap.size) {q : Nat} (hq : kp = q) : ∀ (k : Nat) (u : Value) (w w' : World), k ≠ q → k ∉ D.getD q [] → PushW w2.heap.size vp e size n xs u w → PushE g j vp ka kp ks k w w' → PushW w2.heap.size vp e size n xs u w' := by
  subst hq
  rintro k u w w' hk - ⟨h1, h2⟩ hE
  have hu : ∀ b, u.ownBlock = some b → b ≠ g := fun b hb => by
    rcases h2 b hb with h | h
    · exact hne b h
    · omega
  refine ⟨?_, h2⟩
  unfold PushE at hE
  split at hE
  · obtain ⟨o, rfl⟩ := hE; exact h1.alloc o
  · split at hE
    · obtain ⟨v, rfl⟩ := hE; exact own_same h1 fun b hb => hset_other _ _ _ (hu b hb)
    · subst hE; exact h1
theorem pushD_stand (hne : ∀ k, vp.ownBlock = some k → k ≠ g) (hg : g < w2.heap.size) {q : Nat} (hq : ks = q) (hkp : kp ∈ D.getD q []) : ∀ (k : Nat) (u : Value) (w w' : World), k ≠ q → k ∉ D.getD q [] → PushD w2.heap.size g j T cs vp e size n xs u w → PushE g j vp ka kp ks k w w' → PushD w2.heap.size g j T cs vp e size n xs u w' := by
  subst hq
  rintro k u w w' hk hkD ⟨v', ⟨h1, h2⟩, h3⟩ hE
  have hkp' : k ≠ kp := fun e => hkD (e ▸ hkp)
  unfold PushE at hE
  split at hE
  · obtain ⟨o, rfl⟩ := hE; exact ⟨v', ⟨h1.alloc o, h2⟩, (heap_alloc_old _ _ (block_lt h3)).trans h3⟩
  · subst hE
    exact ⟨v', ⟨h1, h2⟩, h3⟩
theorem pushI_start (ho : w2.ownsRow 0 e size vp n xs) : PushI w2 g vp e size n xs kp ks (fun _ => false) w2.drew := ⟨(Keep.refl _ _).drew, fun _ => ho, fun _ => rfl⟩
/-- What need not come behind an operation is not done before it. -/
theorem not_done (hcl : ∀ j, d j = true → ∀ x ∈ D.getD j [], d x = true) {k q : Nat} (hk : d k = false) (hq : k ∈ D.getD q []) : d q = false := by
  cases h : d q with
  | false => rfl
  | true => rw [hcl q h k hq] at hk; cases hk
theorem PushI.cell (h : PushI w2 g vp e size n xs kp ks d w) (hd : d ks = false) (hc : w2.heap[g]? = some (.cells cs T (0, 0))) (i : Nat) : w.cell? ⟨g, i, none⟩ = cs[i]? := cell_of_block ((h.2.2 hd).trans hc) i
theorem PushI.old (h : PushI w2 g vp e size n xs kp ks d w) {b : Nat} {o : Obj} (hb : w2.heap[b]? = some o) (hne : ¬ (vp.ownBlock = some b ∨ b = g)) : w.heap[b]? = some o := (h.1.block b (block_lt hb) hne).trans hb
theorem PushI.alloc {k : Nat} (h : PushI w2 g vp e size n xs kp ks d w) (hg : g < w2.heap.size) (o : Obj) (h1 : kp ≠ k) (h2 : ks ≠ k) : PushI w2 g vp e size n xs kp ks (fun j => if j = k then true else d j) (w.alloc o) := by
  refine ⟨h.1.alloc o, fun hd => ?_, fun hd => ?_⟩
  · simp only [h1, if_false] at hd; exact (h.2.1 hd).alloc o
  · simp only [h2, if_false] at hd; exact (heap_alloc_old _ _ (Nat.lt_of_lt_of_le hg h.1.size)).trans (h.2.2 hd)
theorem PushI.app {k : Nat} (h : PushI w2 g vp e size n xs kp ks d w) (hk : kp = k) (hs : ks ≠ k) (hne : ∀ b, vp.ownBlock = some b → b ≠ g) (hg : g < w2.heap.size) (hgr : w.grownBy w' vp.ownBlock) : PushI w2 g vp e size n xs kp ks (fun j => if j = k then true else d j) w' := by
  subst hk
  refine ⟨h.1.trans (Keep.of_grown hgr) (fun i _ hi => .inl hi), fun hd => by simp at hd, fun hd => ?_⟩
  simp only [hs, if_false] at hd
  refine (hgr.block g (Nat.lt_of_lt_of_le hg h.1.size) (fun e => hne g e.symm rfl)).trans (h.2.2 hd)
theorem PushI.set {k : Nat} (h : PushI w2 g vp e size n xs kp ks d w) (hs : ks = k) (hkp : d kp = true) (hne : kp ≠ k) (v : Value) : PushI w2 g vp e size n xs kp ks (fun j => if j = k then true else d j) (w.setCell ⟨g, j, none⟩ v) := by
  subst hs
  refine ⟨h.1.setCell _ _ (fun _ => .inr rfl), fun hd => ?_, fun hd => by simp at hd⟩
  simp only [hne, if_false, hkp] at hd
  cases hd
theorem litAt_new (hB : w2.heap.size ≤ w.heap.size) (cells : Array Value) (t : TypeId) (hn : n ≤ maxLen) : LitAt w2.heap.size n cells.toList (.slice (some ⟨w.heap.size, 0, none⟩) n n) (w.alloc (.cells cells t)) := by
  refine ⟨_, rfl, hB, (fun h => by cases h), Nat.le_refl _, hn, fun ad had i u hu => ?_⟩
  injection had with had
  subst had
  rw [Addr.add_lit, Nat.zero_add, cell_of_block (heap_alloc_at w _)]
  rw [← Array.getElem?_toList]
  exact hu
theorem pushW_at {v' : Value} {ys : List Value} (hB : w2.heap.size ≤ w.heap.size) (ho : w'.ownsRow 0 e size v' n ys) (hat : v'.ownBlock = vp.ownBlock ∨ v'.ownBlock = some w.heap.size) : PushW w2.heap.size vp e size n ys v' w' := by
  refine ⟨ho, fun k hk => ?_⟩
  rcases hat with h | h
  · left; rw [← h]; exact hk
  · right
    rw [h] at hk
    injection hk with hk
    omega
theorem pushD_at {v' : Value} {ys : List Value} (h : PushW w2.heap.size vp e size n ys v' w) (hne : ∀ k, vp.ownBlock = some k → k ≠ g) (hg : g < w2.heap.size) (hc : w.heap[g]? = some (.cells cs T (0, 0))) (u : Value) : PushD w2.heap.size g j T cs vp e size n ys u (w.setCell ⟨g, j, none⟩ v') := by
  refine ⟨v', ⟨own_same h.1 fun b hb => hset_other _ _ _ ?_, h.2⟩, hset_at w g j v' hc⟩
  rcases h.2 b hb with hv | hv
  · exact hne b hv
  · show b ≠ g
    omega
end
end Go.Proofs.Ytogkibikghbghaa.Fg
