/- Rows of arrays: one laid in a slice, one taken from it. General; no conditions beyond each lemma's own hypotheses. -/
import Derived.Test.YtliepgmjpbjhfaaFgDrrMem
import Derived.Deep.MidRow
import Derived.Laws.MakeOwn
import Derived.Deep.WholeRow
set_option linter.unusedVariables false
namespace Go.Proofs.Ytliepgmjpbjhfaa.Drr
open Go.RowKit Go.Proofs.Ytliepgmjpbjhfaa.Fg

section
variable {P : Program}
/-- What a part lays over some cells. -/
def lay (off : Nat) (vs cs : List Value) : List Value := cs.take off ++ (vs ++ cs.drop (off + vs.length))
theorem lay_length {off : Nat} {vs cs : List Value} (h : off + vs.length ≤ cs.length) : (lay off vs cs).length = cs.length := by
  simp only [lay, List.length_append, List.length_take, List.length_drop]; omega
theorem fold_lay (off : Nat) : ∀ (vs : List Value) (k : Nat) (cs : Array Value), off + k + vs.length ≤ cs.size →
    ((vs.zipIdx k).foldl (fun (cs : Array Value) x => cs.setIfInBounds (off + x.2) x.1) cs).toList = lay (off + k) vs cs.toList
  | [], k, cs, _ => by simp [lay]
  | v :: vs, k, cs, h => by
    simp only [List.length_cons] at h
    rw [List.zipIdx_cons, List.foldl_cons, fold_lay off vs (k + 1) _ (by simp; omega)]
    have ho : off + k < cs.toList.length := by simp; omega
    simp only [lay, Array.toList_setIfInBounds, List.length_cons]
    rw [List.set_eq_take_append_cons_drop, if_pos ho]
    have hto : (cs.toList.take (off + k)).length = off + k := by rw [List.length_take]; omega
    rw [List.take_append, List.take_of_length_le (by omega), hto, show off + (k + 1) - (off + k) = 1 by omega, List.take_succ_cons, List.take_zero, List.drop_append, List.drop_of_length_le (by omega), hto, List.nil_append,
      show off + (k + 1) + vs.length - (off + k) = vs.length + 1 by omega, List.drop_succ_cons, List.drop_drop, show off + k + 1 + vs.length = off + k + (vs.length + 1) by omega]
    simp
theorem fill_one {place : Nat → Option (Nat × Nat)} {cells : Array Value} {i : Nat} {v : Value} {rest : List (Nat × Value)} (off size : Nat) (hp : place i = some (off, size)) (hs : v.cells.size = size) (hl : off + size ≤ cells.size) :
    Instr.fill place cells ((i, v) :: rest) = Instr.fill place (lay off v.cells.toList cells.toList).toArray rest := by
  have hc : ¬ (v.cells.size ≠ size || off + v.cells.size > cells.size) = true := by simp [hs]; omega
  rw [Instr.fill, hp]
  simp only [hc]
  have := fold_lay off v.cells.toList 0 cells (by simp [hs]; omega)
  simp only [Bool.false_eq_true, if_false]
  congr 1
  apply Array.ext'
  rw [← Array.foldl_toList, Array.toList_zipIdx]
  simpa using this
/-- A slice literal of one element. -/
theorem run_slice_one {t e : TypeId} {size : Nat} {z v : Value} (hu : P.underlying t = some (.slice e)) (hi : (P.info? e).map (fun i => (i.zero, i.size)) = some (some z, size)) (hpos : 0 < size) (hsm : size ≤ 16777216) (hv : v.cells.size = size) (w : World) :
    (Instr.buildSlice t 1 #[(0, v)]).run P w = .ok (.slice (some ⟨w.heap.size, 0, none⟩) 1 1) (w.alloc (.cells v.cells e)) := by
  cases hq : P.info? e with
  | none => simp [hq] at hi
  | some i =>
    simp only [hq, Option.map_some, Option.some.injEq, Prod.mk.injEq] at hi
    obtain ⟨hz, hs⟩ := hi
    have hf : Instr.fill (fun k => some (k * i.size, i.size)) ((Array.range (1 * i.size)).map (z.cells[· % z.cells.size]!)) [(0, v)] = some v.cells := by
      rw [fill_one (0 * i.size) i.size rfl (by rw [hv, hs]) (by simp)]
      simp only [Instr.fill, Option.some.injEq]
      apply Array.ext'
      simp only [lay, Nat.zero_mul, List.take_zero, List.nil_append, Nat.zero_add]
      rw [List.drop_of_length_le (by simp [hv, hs])]
      simp
    have h1 : ¬ 1 * i.size > 2 ^ 24 := by rw [hs]; simp only [Nat.one_mul]; omega
    have h2 : ¬ 1 * i.size = 0 := by rw [hs]; omega
    simp only [Nat.one_mul] at hf h1 h2
    simp [Instr.buildSlice, run_underlying hu, sizeOf, typeInfo, zeroValue, hq, hz, h1, h2, hf, newRow]

theorem wp_slice_one {o : Oper} {a : Act} {w : World} {K : Act → World → Prop} {Q : Exit → Act → World → Prop} (t e : TypeId) (x : Operand) (ho : o.op = .buildSlice t 1 #[(0, x)]) (size : Nat) (z v : Value) (hx : a.eval x = v)
    (hu : P.underlying t = some (.slice e)) (hi : (P.info? e).map (fun i => (i.zero, i.size)) = some (some z, size)) (hpos : 0 < size) (hsm : size ≤ 16777216) (hv : v.cells.size = size)
    (h : K (a.put o.dst (.slice (some ⟨w.heap.size, 0, none⟩) 1 1)) (w.alloc (.cells v.cells e))) : o.wp P a w K Q := by
  unfold Oper.wp execOp
  simp only [ho, List.map_toArray, List.map_cons, List.map_nil, hx, Sem.run_bind, run_slice_one hu hi hpos hsm hv, Result.andThen_ok]
  exact h
theorem wpList_slice_one {ops : Array Oper} {rest : List Oper} {o : Oper} {a : Act} {w : World} {Q : Exit → Act → World → Prop} (hg : o.guard = none) (t e : TypeId) (x : Operand) (ho : o.op = .buildSlice t 1 #[(0, x)]) (size : Nat) (z v : Value) (hx : a.eval x = v)
    (hu : P.underlying t = some (.slice e)) (hi : (P.info? e).map (fun i => (i.zero, i.size)) = some (some z, size)) (hpos : 0 < size) (hsm : size ≤ 16777216) (hv : v.cells.size = size)
    (h : wpList P ops Q rest (a.put o.dst (.slice (some ⟨w.heap.size, 0, none⟩) 1 1)) (w.alloc (.cells v.cells e))) : wpList P ops Q (o :: rest) a w :=
  wpList_plain hg fun _ hK => wp_slice_one t e x ho size z v hx hu hi hpos hsm hv (hK _ _ h)
theorem flat_get8 {k : Nat} : ∀ {rows : List (List Value)}, (∀ r ∈ rows, r.length = k) → ∀ (i j : Nat), j < k → rows.flatten[i * k + j]? = (rows[i]?).bind (fun r => r[j]?)
  | [], _, i, j, _ => by simp
  | r :: rows, h, 0, j, hj => by
    have hr := h r (by simp)
    rw [List.flatten_cons, Nat.zero_mul, Nat.zero_add, List.getElem?_append_left (by omega)]
    rfl
  | r :: rows, h, i + 1, j, hj => by
    have hr := h r (by simp)
    rw [List.flatten_cons, List.getElem?_append_right (by rw [hr, Nat.add_mul]; omega), hr, show (i + 1) * k + j - k = i * k + j by rw [Nat.add_mul]; omega, flat_get8 (fun x hx => h x (by simp [hx])) i j hj]
    rfl
theorem src_rows (w : World) (cells : List Value) (t : TypeId) (n : Nat) (hn : n ≤ maxLen) : Src (w.alloc (.cells cells.toArray t)) (some ⟨w.heap.size, 0, none⟩) n n cells := by
  refine ⟨(fun h => by cases h), Nat.le_refl _, hn, fun ad had i u hu => ?_⟩
  injection had with had
  subst had
  rw [Addr.add_lit, Nat.zero_add, cell_of_block (heap_alloc_at w _), List.getElem?_toArray]
  exact hu
end
end Go.Proofs.Ytliepgmjpbjhfaa.Drr
