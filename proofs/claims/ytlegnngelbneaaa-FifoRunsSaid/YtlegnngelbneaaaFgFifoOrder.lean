/- The law FifoOrder of floodgate's fifo layer: what comes out of a line is what went in, in order. There are no conditions: every line, every acts. -/
import Derived.Test.YtlegnngelbneaaaFgFifoAlive
namespace Go.Proofs.Ytlegnngelbneaaa.Fifo
open Go.RowKit Go.Proofs.Ytlegnngelbneaaa.Fg Go.ChangeShapes Go.WideShapes Go.ChangeAt

/-- A slice of bytes that reads as l, and goes on to do so while only blocks of other types, from B on, change. -/
def RdF (B : Nat) (w : World) (x : Value) (l : List Int) : Prop :=
  ∃ A c, x = .slice A l.length c ∧ Src w A l.length c (bv l) ∧ (l ≠ [] → ∀ ad, A = some ad → ad.block < B ∨ ∃ cs fr, w.heap[ad.block]? = some (.cells cs 5 fr))
theorem RdF.keep {B : Nat} {w w' : World} {x : Value} {l : List Int} {S : Nat → Prop} (h : RdF B w x l) (hk : Keep S w w') (hB : B ≤ w.heap.size)
    (hS : ∀ k, S k → B ≤ k ∧ ∃ cs t fr, w.heap[k]? = some (.cells cs t fr) ∧ t ≠ 5) : RdF B w' x l := by
  obtain ⟨A, c, rfl, h2, h3⟩ := h
  have key : l ≠ [] → ∀ ad, A = some ad → w'.heap[ad.block]? = w.heap[ad.block]? := by
    intro hne ad had
    rcases h3 hne ad had with h4 | ⟨cs, fr, h4⟩
    · exact hk.block _ (by omega) (fun hs => by have := (hS _ hs).1; omega)
    · refine hk.block _ (block_lt h4) (fun hs => ?_)
      obtain ⟨_, cs', t, fr', h5, h6⟩ := hS _ hs
      rw [h4] at h5
      injection h5 with h5
      injection h5 with _ h5
      exact h6 h5.symm
  have hbl : bv l ≠ [] → l ≠ [] := fun h e => h (by rw [e]; rfl)
  refine ⟨A, c, rfl, h2.same (fun ad had hne => key (hbl hne) ad had), fun hne ad had => ?_⟩
  rcases h3 hne ad had with h4 | ⟨cs, fr, h4⟩
  · exact .inl h4
  · exact .inr ⟨cs, fr, (key hne ad had).trans h4⟩
theorem RdF.of_own {B base : Nat} {w : World} {A : Option Addr} {c : Nat} {l : List Int} (h : w.ownsRow base 5 1 (.slice A l.length c) l.length (bv l)) : RdF B w (.slice A l.length c) l := by
  refine ⟨A, c, rfl, Src.of_own h, fun _ ad had => .inr ?_⟩
  obtain ⟨_, h2⟩ := h
  rcases h2 with ⟨h2, _⟩ | ⟨g, cap, cur, h2, _, hh, _⟩
  · injection h2 with h2
    rw [had] at h2; cases h2
  · injection h2 with h2
    rw [had] at h2
    injection h2 with h2
    subst h2
    exact ⟨cur, _, hh⟩

/-- A list of slices, each read so. -/
structure Rows (B : Nat) (w : World) (v : Value) (vs : List Value) (ls : List (List Int)) : Prop where
  own : w.ownsRow B 27 1 v ls.length vs
  each : ∀ (j : Nat) (x : Value) (l : List Int), vs[j]? = some x → ls[j]? = some l → RdF B w x l
theorem Rows.keep {B : Nat} {w w' : World} {v : Value} {vs : List Value} {ls : List (List Int)} {S : Nat → Prop} (h : Rows B w v vs ls) (hk : Keep S w w') (hB : B ≤ w.heap.size)
    (hS : ∀ k, S k → B ≤ k ∧ ∃ cs t fr, w.heap[k]? = some (.cells cs t fr) ∧ t ≠ 5) (hv : ∀ k, v.ownBlock = some k → ¬ S k) : Rows B w' v vs ls :=
  ⟨own_keep h.own hk hv, fun j x l hx hl => (h.each j x l hx hl).keep hk hB hS⟩
theorem Rows.type {B : Nat} {w : World} {v : Value} {vs : List Value} {ls : List (List Int)} (h : Rows B w v vs ls) {k : Nat} (hk : v.ownBlock = some k) : B ≤ k ∧ ∃ cs t fr, w.heap[k]? = some (.cells cs t fr) ∧ t ≠ 5 := by
  have h1 := h.own.lt k hk
  refine ⟨h1.1, ?_⟩
  obtain ⟨_, h2⟩ := h.own
  rcases h2 with ⟨h2, _⟩ | ⟨g, cap, cur, h2, _, hh, _⟩
  · subst h2; cases hk
  · subst h2
    injection hk with hk
    subst hk
    exact ⟨cur, _, _, hh, by decide⟩
theorem IsQ.type {B : Nat} {w : World} {g lb cap : Nat} {ls : List (List Int)} {F : Nat → Prop} (h : IsQ w g lb cap ls F) (hF : ∀ k, F k → B ≤ k) : ∀ k, k = g ∨ k = lb → B ≤ k ∧ ∃ cs t fr, w.heap[k]? = some (.cells cs t fr) ∧ t ≠ 5 := by
  obtain ⟨at_, arr, h1, _, _, h4, _⟩ := h.ex
  intro k hk
  rcases hk with rfl | rfl
  · exact ⟨hF _ h.self, _, _, _, h1.head, by decide⟩
  · exact ⟨hF _ h4, _, _, _, h1.list, by decide⟩

/-- What holds at the head of each round: what went in is what came out and what waits. -/
structure OInv (B g lb cap : Nat) (W : World) (v6 v7 : Value) (j : Nat) (ls outs : List (List Int)) (F : Nat → Prop) (vs6 vs7 : List Value) (wr : World) : Prop where
  q : IsQ wr g lb cap ls F
  new : ∀ k, F k → B ≤ k
  size : B ≤ W.heap.size
  below : Below B W wr
  rin : Rows B wr v6 vs6 (outs ++ ls)
  rout : Rows B wr v7 vs7 outs
  few : outs.length + ls.length ≤ j
  d6 : ∀ k, v6.ownBlock = some k → ¬ F k
  d7 : ∀ k, v7.ownBlock = some k → ¬ F k
  d67 : ∀ k, v6.ownBlock = some k → ¬ v7.ownBlock = some k

section
variable {B g lb cap : Nat} {W : World} {v6 v7 : Value} {j : Nat} {ls outs : List (List Int)} {F : Nat → Prop} {vs6 vs7 : List Value} {wr : World}
theorem OInv.base (h : OInv B g lb cap W v6 v7 j ls outs F vs6 vs7 wr) : B ≤ wr.heap.size := by have := h.below.size; have := h.size; omega
theorem OInv.alloc (h : OInv B g lb cap W v6 v7 j ls outs F vs6 vs7 wr) (o : Obj) : OInv B g lb cap W v6 v7 j ls outs F vs6 vs7 (wr.alloc o) := by
  have hB := h.base
  have hk : Keep (fun _ => False) wr (wr.alloc o) := (Keep.refl _ _).alloc o
  exact ⟨isq_alloc h.q o, h.new, h.size, h.below.alloc hB o, h.rin.keep hk hB (fun _ h => h.elim) (fun _ _ h => h), h.rout.keep hk hB (fun _ h => h.elim) (fun _ _ h => h), h.few, h.d6, h.d7, h.d67⟩
theorem OInv.more (h : OInv B g lb cap W v6 v7 j ls outs F vs6 vs7 wr) {j' : Nat} (hj : j ≤ j') : OInv B g lb cap W v6 v7 j' ls outs F vs6 vs7 wr :=
  ⟨h.q, h.new, h.size, h.below, h.rin, h.rout, by have := h.few; omega, h.d6, h.d7, h.d67⟩
theorem IsQ.in_F {w : World} (h : IsQ w g lb cap ls F) {k : Nat} (hk : k = g ∨ k = lb) : F k := by
  rcases hk with rfl | rfl
  · exact h.self
  · exact h.ex.choose_spec.choose_spec.2.2.2.1
/-- Behind a call that changes the queue alone. -/
theorem OInv.queue {w' : World} (h : OInv B g lb cap W v6 v7 j ls outs F vs6 vs7 wr) (hk : Keep (fun k => k = g ∨ k = lb) wr w') : Below B W w' ∧ Rows B w' v6 vs6 (outs ++ ls) ∧ Rows B w' v7 vs7 outs := by
  have hB := h.base
  have ht := h.q.type h.new
  exact ⟨h.below.trans (hk.below hB (fun i hi => (ht i hi).1)), h.rin.keep hk hB ht (fun k hv hi => h.d6 k hv (h.q.in_F hi)), h.rout.keep hk hB ht (fun k hv hi => h.d7 k hv (h.q.in_F hi))⟩

/-- A push that is refused, a pop of nothing. -/
theorem OInv.refused {w2 : World} {F2 : Nat → Prop} (h : OInv B g lb cap W v6 v7 j ls outs F vs6 vs7 wr) (hq : IsQ w2 g lb cap ls F2) (hk : Keep (fun k => k = g ∨ k = lb) wr w2) (hF : ∀ k, F2 k → F k ∨ wr.heap.size ≤ k) :
    OInv B g lb cap W v6 v7 (j + 1) ls outs F2 vs6 vs7 w2 := by
  obtain ⟨h1, h2, h3⟩ := h.queue hk
  have hB := h.base
  refine ⟨hq, fun k hk => ?_, h.size, h1, h2, h3, by have := h.few; omega, fun k hv hF2 => ?_, fun k hv hF2 => ?_, h.d67⟩
  · rcases hF k hk with h4 | h4
    · exact h.new k h4
    · omega
  · rcases hF k hF2 with h4 | h4
    · exact h.d6 k hv h4
    · have := (h.rin.own.lt k hv).2; omega
  · rcases hF k hF2 with h4 | h4
    · exact h.d7 k hv h4
    · have := (h.rout.own.lt k hv).2; omega
end
/-- Behind an append of a slice to what went in (the other list likewise). -/
theorem Rows.snoc {B : Nat} {w w' : World} {v v' : Value} {vs : List Value} {ls : List (List Int)} {x : Value} {l : List Int} (h : Rows B w v vs ls) (hx : RdF B w x l) (hB : B ≤ w.heap.size)
    (ho : w'.ownsRow B 27 1 v' (ls.length + 1) (vs ++ [x])) (hg : w.grownBy w' v.ownBlock) : Rows B w' v' (vs ++ [x]) (ls ++ [l]) := by
  have hk : Keep (fun k => v.ownBlock = some k) w w' := Keep.of_grown hg
  have hS : ∀ k, v.ownBlock = some k → B ≤ k ∧ ∃ cs t fr, w.heap[k]? = some (.cells cs t fr) ∧ t ≠ 5 := fun k hk => h.type hk
  have hlen : vs.length = ls.length := by have := h.own.1; omega
  refine ⟨by simpa using ho, fun j y m hy hm => ?_⟩
  rcases Nat.lt_or_ge j vs.length with hj | hj
  · rw [List.getElem?_append_left hj] at hy
    rw [List.getElem?_append_left (by omega)] at hm
    exact (h.each j y m hy hm).keep hk hB hS
  · have hj' : j = vs.length := by
      have := (List.getElem?_eq_some_iff.1 hy).1
      simp at this; omega
    subst hj'
    rw [List.getElem?_append_right (Nat.le_refl _)] at hy
    rw [hlen, List.getElem?_append_right (Nat.le_refl _)] at hm
    simp at hy hm
    subst hy hm
    exact hx.keep hk hB hS

section
variable {B g lb cap : Nat} {W : World} {v6 v7 : Value} {j : Nat} {ls outs : List (List Int)} {F : Nat → Prop} {vs6 vs7 : List Value} {wr : World}
/-- A push that is let in, and its append. -/
theorem OInv.pushed {w2 w3 : World} {F2 : Nat → Prop} {x v6' : Value} {l : List Int} {o : Obj} (h : OInv B g lb cap W v6 v7 j ls outs F vs6 vs7 wr) (hq : IsQ w2 g lb cap (ls ++ [l]) F2)
    (hk : Keep (fun k => k = g ∨ k = lb) wr w2) (hF : ∀ k, F2 k → F k ∨ wr.heap.size ≤ k) (hx : RdF B wr x l)
    (ho : w3.ownsRow B 27 1 v6' (outs.length + ls.length + 1) (vs6 ++ [x])) (hg : (w2.alloc o).grownBy w3 v6.ownBlock) (hat : v6'.ownBlock = v6.ownBlock ∨ v6'.ownBlock = some (w2.alloc o).heap.size) :
    OInv B g lb cap W v6' v7 (j + 1) (ls ++ [l]) outs F2 (vs6 ++ [x]) vs7 w3 := by
  obtain ⟨h1, h2, h3⟩ := h.queue hk
  have hB := h.base
  have ht := h.q.type h.new
  have hx2 : RdF B w2 x l := hx.keep hk hB ht
  have hB2 : B ≤ w2.heap.size := by have := hk.size; omega
  have ka : Keep (fun _ => False) w2 (w2.alloc o) := (Keep.refl _ _).alloc o
  have hB3 : B ≤ (w2.alloc o).heap.size := by simp; omega
  have hx3 : RdF B (w2.alloc o) x l := hx2.keep ka hB2 (fun _ h => h.elim)
  have r6 : Rows B (w2.alloc o) v6 vs6 (outs ++ ls) := h2.keep ka hB2 (fun _ h => h.elim) (fun _ _ h => h)
  have r7 : Rows B (w2.alloc o) v7 vs7 outs := h3.keep ka hB2 (fun _ h => h.elim) (fun _ _ h => h)
  have kg : Keep (fun k => v6.ownBlock = some k) (w2.alloc o) w3 := Keep.of_grown hg
  have d6' : ∀ k, v6.ownBlock = some k → ¬ F2 k := fun k hv hF2 => by
    rcases hF k hF2 with h4 | h4
    · exact h.d6 k hv h4
    · have := (h.rin.own.lt k hv).2; omega
  have d7' : ∀ k, v7.ownBlock = some k → ¬ F2 k := fun k hv hF2 => by
    rcases hF k hF2 with h4 | h4
    · exact h.d7 k hv h4
    · have := (h.rout.own.lt k hv).2; omega
  refine ⟨(isq_alloc hq o).keep kg (fun k hF2 hv => d6' k hv hF2), fun k hk => ?_, h.size, ?_, ?_, r7.keep kg hB3 (fun k hk => r6.type hk) (fun k hv hv6 => h.d67 k hv6 hv), by have := h.few; simp; omega, fun k hv hF2 => ?_, d7', fun k hv hv7 => ?_⟩
  · rcases hF k hk with h4 | h4
    · exact h.new k h4
    · omega
  · exact (h1.alloc hB2 o).trans (kg.below hB3 (fun k hk => (r6.type hk).1))
  · rw [← List.append_assoc]
    exact r6.snoc hx3 hB3 (by rw [List.length_append]; exact ho) hg
  · rcases hat with hat | hat
    · exact d6' k (hat ▸ hv) hF2
    · rw [hat] at hv
      injection hv with hv
      have := hq.lt k hF2
      simp at hv; omega
  · rcases hat with hat | hat
    · exact h.d67 k (hat ▸ hv) hv7
    · rw [hat] at hv
      injection hv with hv
      have := (h3.own.lt k hv7).2
      simp at hv; omega
/-- A pop of the first one, and its append. -/
theorem OInv.popped {w2 w3 : World} {A : Option Addr} {c : Nat} {v7' : Value} {l : List Int} {o : Obj} (h : OInv B g lb cap W v6 v7 j (l :: ls) outs F vs6 vs7 wr) (hq : IsQ w2 g lb cap ls F)
    (hk : Keep (fun k => k = g ∨ k = lb) wr w2) (hx : w2.ownsRow 0 5 1 (.slice A l.length c) l.length (bv l))
    (ho : w3.ownsRow B 27 1 v7' (outs.length + 1) (vs7 ++ [.slice A l.length c])) (hg : (w2.alloc o).grownBy w3 v7.ownBlock) (hat : v7'.ownBlock = v7.ownBlock ∨ v7'.ownBlock = some (w2.alloc o).heap.size) :
    OInv B g lb cap W v6 v7' (j + 1) ls (outs ++ [l]) F vs6 (vs7 ++ [.slice A l.length c]) w3 := by
  obtain ⟨h1, h2, h3⟩ := h.queue hk
  have hB := h.base
  have hx2 : RdF B w2 (.slice A l.length c) l := RdF.of_own hx
  have hB2 : B ≤ w2.heap.size := by have := hk.size; omega
  have ka : Keep (fun _ => False) w2 (w2.alloc o) := (Keep.refl _ _).alloc o
  have hB3 : B ≤ (w2.alloc o).heap.size := by simp; omega
  have hx3 : RdF B (w2.alloc o) (.slice A l.length c) l := hx2.keep ka hB2 (fun _ h => h.elim)
  have r6 : Rows B (w2.alloc o) v6 vs6 (outs ++ l :: ls) := h2.keep ka hB2 (fun _ h => h.elim) (fun _ _ h => h)
  have r7 : Rows B (w2.alloc o) v7 vs7 outs := h3.keep ka hB2 (fun _ h => h.elim) (fun _ _ h => h)
  have kg : Keep (fun k => v7.ownBlock = some k) (w2.alloc o) w3 := Keep.of_grown hg
  have r6' : Rows B w3 v6 vs6 (outs ++ l :: ls) := r6.keep kg hB3 (fun k hk => r7.type hk) (fun k hv hv7 => h.d67 k hv hv7)
  have e : outs ++ l :: ls = (outs ++ [l]) ++ ls := by simp
  refine ⟨(isq_alloc hq o).keep kg (fun k hF2 hv => h.d7 k hv hF2), h.new, h.size, ?_, e ▸ r6', r7.snoc hx3 hB3 ho hg, by have := h.few; simp at this ⊢; omega, h.d6, fun k hv hF2 => ?_, fun k hv hv7 => ?_⟩
  · exact (h1.alloc hB2 o).trans (kg.below hB3 (fun k hk => (r7.type hk).1))
  · rcases hat with hat | hat
    · exact h.d7 k (hat ▸ hv) hF2
    · rw [hat] at hv
      injection hv with hv
      have := hq.lt k hF2
      simp at hv; omega
  · rcases hat with hat | hat
    · exact h.d67 k hv (hat ▸ hv7)
    · rw [hat] at hv7
      injection hv7 with hv7
      have := (h2.own.lt k hv).2
      simp at hv7; omega
end

end Go.Proofs.Ytlegnngelbneaaa.Fifo
