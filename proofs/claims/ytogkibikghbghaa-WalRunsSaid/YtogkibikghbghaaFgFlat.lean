/- Flat of structs or arrays in one block, a run of cells for each. General; no conditions beyond each lemma's own hypotheses. -/
import Derived.Test.YtogkibikghbghaaFgOwn
import Derived.Deep.Upon
set_option linter.unusedVariables false
namespace Go.Proofs.Ytogkibikghbghaa.Fg
open Go.RowKit

theorem flat_len {k : Nat} : ∀ {rows : List (List Value)}, (∀ r ∈ rows, r.length = k) → rows.flatten.length = rows.length * k
  | [], _ => by simp
  | r :: rows, h => by
    rw [List.flatten_cons, List.length_append, flat_len (fun x hx => h x (by simp [hx])), h r (by simp), List.length_cons, Nat.add_mul, Nat.one_mul, Nat.add_comm]
theorem flat_get {k : Nat} : ∀ {rows : List (List Value)}, (∀ r ∈ rows, r.length = k) → ∀ (i j : Nat), j < k → rows.flatten[i * k + j]? = (rows[i]?).bind (fun r => r[j]?)
  | [], _, i, j, _ => by simp
  | r :: rows, h, 0, j, hj => by
    have hr := h r (by simp)
    rw [List.flatten_cons, Nat.zero_mul, Nat.zero_add, List.getElem?_append_left (by omega)]
    rfl
  | r :: rows, h, i + 1, j, hj => by
    have hr := h r (by simp)
    rw [List.flatten_cons, List.getElem?_append_right (by rw [hr, Nat.add_mul]; omega), hr, show (i + 1) * k + j - k = i * k + j by rw [Nat.add_mul]; omega, flat_get (fun x hx => h x (by simp [hx])) i j hj]
    rfl
theorem flat_take {k : Nat} : ∀ {rows : List (List Value)}, (∀ r ∈ rows, r.length = k) → ∀ (i : Nat), rows.flatten.take (i * k) = (rows.take i).flatten
  | [], _, i => by simp
  | r :: rows, h, 0 => by simp
  | r :: rows, h, i + 1 => by
    have hr := h r (by simp)
    rw [List.flatten_cons, List.take_append, hr, show (i + 1) * k - k = i * k by rw [Nat.add_mul]; omega, flat_take (fun x hx => h x (by simp [hx])) i, List.take_of_length_le (by rw [hr, Nat.add_mul]; omega)]
    rfl
theorem flat_drop {k : Nat} : ∀ {rows : List (List Value)}, (∀ r ∈ rows, r.length = k) → ∀ (i : Nat), rows.flatten.drop (i * k) = (rows.drop i).flatten
  | [], _, i => by simp
  | r :: rows, h, 0 => by simp
  | r :: rows, h, i + 1 => by
    have hr := h r (by simp)
    rw [List.flatten_cons, List.drop_append, hr, show (i + 1) * k - k = i * k by rw [Nat.add_mul]; omega, flat_drop (fun x hx => h x (by simp [hx])) i, List.drop_of_length_le (by rw [hr, Nat.add_mul]; omega)]
    rfl
theorem flat_set {k : Nat} {rows : List (List Value)} (h : ∀ r ∈ rows, r.length = k) (i : Nat) (hi : i < rows.length) (new : List Value) (hn : new.length = k) :
    rows.flatten.take (i * k) ++ (new ++ rows.flatten.drop (i * k + k)) = (rows.set i new).flatten := by
  rw [flat_take h, show i * k + k = (i + 1) * k by rw [Nat.add_mul]; omega, flat_drop h, List.set_eq_take_append_cons_drop, if_pos hi, List.flatten_append, List.flatten_cons]
theorem set_len {k : Nat} {rows : List (List Value)} (h : ∀ r ∈ rows, r.length = k) (i : Nat) {new : List Value} (hn : new.length = k) : ∀ r ∈ rows.set i new, r.length = k := by
  intro r hr
  rcases List.mem_or_eq_of_mem_set hr with hr | rfl
  · exact h r hr
  · exact hn

/-- What a store of many cells leaves of its block. -/
theorem heap_setCells (b : Nat) {t : TypeId} {fr : Nat × Nat} : ∀ (vs : List Value) (o : Nat) (w : World) (cur : Array Value), w.heap[b]? = some (.cells cur t fr) → o + vs.length ≤ cur.size →
    (w.setCells b o vs).heap[b]? = some (.cells (cur.toList.take o ++ (vs ++ cur.toList.drop (o + vs.length))).toArray t fr)
  | [], o, w, cur, h, _ => by
    show w.heap[b]? = _
    rw [h]
    simp
  | v :: r, o, w, cur, h, hl => by
    rw [World.setCells, heap_setCells b r (o + 1) (w.setCell ⟨b, o, none⟩ v) _ (hset_at w b o v h) (by simp at hl ⊢; omega)]
    simp only [List.length_cons] at hl
    congr 3
    have ho : o < cur.toList.length := by simp; omega
    simp only [Array.toList_setIfInBounds, List.length_cons]
    rw [List.set_eq_take_append_cons_drop, if_pos ho]
    have hto : (cur.toList.take o).length = o := by rw [List.length_take]; omega
    rw [List.take_append, List.take_of_length_le (by omega), hto, show o + 1 - o = 1 by omega, List.take_succ_cons, List.take_zero, List.drop_append, List.drop_of_length_le (by omega), hto, List.nil_append,
      show o + 1 + r.length - o = r.length + 1 by omega, List.drop_succ_cons, List.drop_drop, show o + 1 + r.length = o + (r.length + 1) by omega]
    simp
theorem heap_setCells_ne (b : Nat) : ∀ (vs : List Value) (o : Nat) (w : World) {i : Nat}, i ≠ b → (w.setCells b o vs).heap[i]? = w.heap[i]?
  | [], _, _, _, _ => rfl
  | v :: r, o, w, i, h => by rw [World.setCells, heap_setCells_ne b r (o + 1) _ h, hset_other w ⟨b, o, none⟩ v h]
theorem setCells_stays (b : Nat) : ∀ (vs : List Value) (o : Nat) (w : World), (w.setCells b o vs).os = w.os ∧ (w.setCells b o vs).tape = w.tape ∧ (w.setCells b o vs).output = w.output ∧ (w.setCells b o vs).heap.size = w.heap.size
  | [], _, _ => ⟨rfl, rfl, rfl, rfl⟩
  | v :: r, o, w => by
    have := setCells_stays b r (o + 1) (w.setCell ⟨b, o, none⟩ v)
    rw [World.setCells]
    exact ⟨this.1, this.2.1, this.2.2.1, by rw [this.2.2.2]; simp⟩
theorem Keep.setCells {S : Nat → Prop} {a w : World} (h : Keep S a w) (b o : Nat) (vs : List Value) (hb : b < a.heap.size → S b) : Keep S a (w.setCells b o vs) := by
  obtain ⟨e1, e2, e3, e4⟩ := setCells_stays b vs o w
  exact ⟨e1.trans h.os, e2.trans h.tape, e3.trans h.output, by rw [e4]; exact h.size, fun k hk hn => (heap_setCells_ne b vs o w (fun e => by subst e; exact hn (hb hk))).trans (h.block k hk hn)⟩

/-- A block is rows of so many cells. -/
def Flat (w : World) (b : Nat) (t : TypeId) (rows : List (List Value)) : Prop := w.heap[b]? = some (.cells rows.flatten.toArray t (0, 0))
theorem Flat.same {w w' : World} {b : Nat} {t : TypeId} {rows : List (List Value)} (h : Flat w b t rows) (hb : w'.heap[b]? = w.heap[b]?) : Flat w' b t rows := hb.trans h
theorem Flat.range {w : World} {b : Nat} {t : TypeId} {rows : List (List Value)} (h : Flat w b t rows) {k : Nat} (hk : ∀ r ∈ rows, r.length = k) (i : Nat) {r : List Value} (hr : rows[i]? = some r) : w.rangeAt b (i * k) r := by
  intro j v hv
  have hj : j < k := by
    have := (List.getElem?_eq_some_iff.1 hv).1
    rw [hk r (List.mem_of_getElem? hr)] at this
    exact this
  rw [cell_of_block h, List.getElem?_toArray, flat_get hk i j hj, hr]
  exact hv
theorem Flat.there {w : World} {b : Nat} {t : TypeId} {rows : List (List Value)} (h : Flat w b t rows) {k : Nat} (hk : ∀ r ∈ rows, r.length = k) (i : Nat) (hi : i < rows.length) : w.there b (i * k) k := by
  intro j hj
  have hr : rows[i]? = some rows[i] := List.getElem?_eq_getElem hi
  have hl := hk rows[i] (List.getElem_mem hi)
  have := h.range hk i hr j (rows[i][j]'(by omega)) (List.getElem?_eq_getElem (by omega))
  exact ⟨by rw [this]; rfl, free_of_block h _⟩
theorem Flat.store {w : World} {b : Nat} {t : TypeId} {rows : List (List Value)} (h : Flat w b t rows) {k : Nat} (hk : ∀ r ∈ rows, r.length = k) (i : Nat) (hi : i < rows.length) (new : List Value) (hn : new.length = k) :
    Flat (w.setCells b (i * k) new) b t (rows.set i new) := by
  have hl := flat_len hk
  have hle : (i + 1) * k ≤ rows.length * k := Nat.mul_le_mul_right k hi
  rw [Nat.add_mul, Nat.one_mul] at hle
  have := heap_setCells b new (i * k) w rows.flatten.toArray h (by simp [hl, hn]; exact hle)
  unfold Flat
  rw [this, hn]
  congr 2
  have := flat_set hk i hi new hn
  rw [this]

/-- Cells that were just laid. -/
theorem src_rows (w : World) (cells : List Value) (t : TypeId) (n : Nat) (hn : n ≤ maxLen) : Src (w.alloc (.cells cells.toArray t)) (some ⟨w.heap.size, 0, none⟩) n n cells := by
  refine ⟨(fun h => by cases h), Nat.le_refl _, hn, fun ad had i u hu => ?_⟩
  injection had with had
  subst had
  rw [Addr.add_lit, Nat.zero_add, cell_of_block (heap_alloc_at w _), List.getElem?_toArray]
  exact hu
/-- Rows of so many cells at the head of a block. -/
def RowsAt (w : World) (A : Option Addr) (k : Nat) (rows : List (List Value)) : Prop := ∀ (j : Nat) (r : List Value), rows[j]? = some r → ∃ p, A = some ⟨p, 0, none⟩ ∧ p < w.heap.size ∧ w.rangeAt p (j * k) r
theorem RowsAt.same {w w' : World} {A : Option Addr} {k : Nat} {rows : List (List Value)} (h : RowsAt w A k rows) (hb : ∀ p, A = some ⟨p, 0, none⟩ → p < w.heap.size → w'.heap[p]? = w.heap[p]?) : RowsAt w' A k rows := by
  intro j r hr
  obtain ⟨p, h1, h2, h3⟩ := h j r hr
  have e := hb p h1 h2
  refine ⟨p, h1, ?_, fun i v hv => (World.cell?_of_block (a := ⟨p, j * k + i, none⟩) e).trans (h3 i v hv)⟩
  rw [Array.getElem?_eq_getElem h2] at e
  exact block_lt e
theorem RowsAt.below {w w' : World} {A : Option Addr} {k : Nat} {rows : List (List Value)} (h : RowsAt w A k rows) (hb : Below w.heap.size w w') : RowsAt w' A k rows := h.same fun p _ hp => hb.block p hp
theorem RowsAt.of_own {w : World} {base : Nat} {e : TypeId} {k n c : Nat} {A : Option Addr} {rows : List (List Value)} (h : w.ownsRow base e k (.slice A n c) n rows.flatten) (hk : ∀ r ∈ rows, r.length = k) (h0 : 0 < k) : RowsAt w A k rows := by
  intro j r hr
  have hn := h.1
  rw [flat_len hk] at hn
  have hl : rows.length = n := Nat.eq_of_mul_eq_mul_right h0 hn
  have hj := (List.getElem?_eq_some_iff.1 hr).1
  obtain ⟨A', c', hv, h1, h2, h3, h4⟩ := own_form h
  injection hv with e1 e2 e3
  subst e1 e3
  cases A with
  | none => have := (h3 rfl).1; omega
  | some ad =>
    obtain ⟨g, rfl, hg⟩ := h4 ad rfl
    refine ⟨g, rfl, (h.lt g rfl).2, fun i v hv => hg _ _ ?_⟩
    have hi : i < k := by
      have := (List.getElem?_eq_some_iff.1 hv).1
      rw [hk r (List.mem_of_getElem? hr)] at this
      exact this
    rw [flat_get hk j i hi, hr]
    exact hv
end Go.Proofs.Ytogkibikghbghaa.Fg
