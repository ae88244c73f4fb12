/- Arrays and structs of many cells as whole values: alloc, build, buildSlice, make. General; no conditions beyond each lemma's own hypotheses. -/
import Derived.Test.YtogkibikghbghaaFgFlat
import Derived.Test.YtogkibikghbghaaFgOwn2
import Derived.Laws.MakeOwn
import Derived.Deep.WholeRow
import Derived.Deep.LoopGhost
import Derived.Deep.DeepCutAuto
import Derived.Deep.CutBlock
import Derived.Deep.RegionHeld3
import Derived.Deep.RegionWith
import Derived.StillTailTactics
set_option linter.unusedVariables false
namespace Go.Proofs.Ytogkibikghbghaa.Fg
open Go.RowKit

section
variable {P : Program}

/-- A variable of many cells is laid. -/
theorem run_alloc_as {t : TypeId} {cells : Array Value} (hz : (P.info? t).map (·.zero) = some (some (.agg cells))) (old : Value) (w : World) :
    (Instr.alloc t true old).run P w = .ok (.pointer (some ⟨w.heap.size, 0, none⟩)) (w.alloc (.cells cells t)) := by
  cases hq : P.info? t with
  | none => simp [hq] at hz
  | some i =>
    simp only [hq, Option.map_some, Option.some.injEq] at hz
    simp [Instr.alloc, zeroValue, typeInfo, hq, hz, newVar, newRow, Value.cells]
theorem wp_alloc_as {o : Oper} {a : Act} {w : World} {K : Act → World → Prop} {Q : Exit → Act → World → Prop} (t : TypeId) (ho : o.op = .alloc t) (cells : Array Value)
    (hz : (P.info? t).map (·.zero) = some (some (.agg cells))) (h : K (a.put o.dst (.pointer (some ⟨w.heap.size, 0, none⟩))) (w.alloc (.cells cells t))) : o.wp P a w K Q := by
  unfold Oper.wp execOp
  simp only [ho, Sem.run_bind, run_alloc_as hz, Result.andThen_ok]
  exact h
theorem wpList_alloc_as {ops : Array Oper} {rest : List Oper} {o : Oper} {a : Act} {w : World} {Q : Exit → Act → World → Prop} (hg : o.guard = none) (t : TypeId) (ho : o.op = .alloc t) (cells : Array Value)
    (hz : (P.info? t).map (·.zero) = some (some (.agg cells))) (h : wpList P ops Q rest (a.put o.dst (.pointer (some ⟨w.heap.size, 0, none⟩))) (w.alloc (.cells cells t))) : wpList P ops Q (o :: rest) a w :=
  wpList_plain hg fun _ hK => wp_alloc_as t ho cells hz (hK _ _ h)

theorem wp_build_as {o : Oper} {a : Act} {w : World} {K : Act → World → Prop} {Q : Exit → Act → World → Prop} (t : TypeId) (parts : Array (Nat × Operand)) (ho : o.op = .build t parts) (cells : Array Value)
    (hb : P.built t (parts.map fun (i, x) => (i, a.eval x)).toList = some cells) (h : K (a.put o.dst (.agg cells)) w) : o.wp P a w K Q :=
  wp_build t parts ho (by rw [hb]; rfl) (by rw [hb]; exact h)
theorem wpList_build_as {ops : Array Oper} {rest : List Oper} {o : Oper} {a : Act} {w : World} {Q : Exit → Act → World → Prop} (hg : o.guard = none) (t : TypeId) (parts : Array (Nat × Operand)) (ho : o.op = .build t parts) (cells : Array Value)
    (hb : P.built t (parts.map fun (i, x) => (i, a.eval x)).toList = some cells) (h : wpList P ops Q rest (a.put o.dst (.agg cells)) w) : wpList P ops Q (o :: rest) a w :=
  wpList_plain hg fun _ hK => wp_build_as t parts ho cells hb (hK _ _ h)

theorem wp_build_list {o : Oper} {a : Act} {w : World} {K : Act → World → Prop} {Q : Exit → Act → World → Prop} (t : TypeId) (parts : Array (Nat × Operand)) (ho : o.op = .build t parts) (vals : List (Nat × Value))
    (hv : parts.toList.map (fun p => (p.1, a.eval p.2)) = vals) (cells : Array Value) (hb : P.built t vals = some cells) (h : K (a.put o.dst (.agg cells)) w) : o.wp P a w K Q :=
  wp_build_as t parts ho cells (by rw [Array.toList_map, hv]; exact hb) h
theorem wpList_build_list {ops : Array Oper} {rest : List Oper} {o : Oper} {a : Act} {w : World} {Q : Exit → Act → World → Prop} (hg : o.guard = none) (t : TypeId) (parts : Array (Nat × Operand)) (ho : o.op = .build t parts) (vals : List (Nat × Value))
    (hv : parts.toList.map (fun p => (p.1, a.eval p.2)) = vals) (cells : Array Value) (hb : P.built t vals = some cells) (h : wpList P ops Q rest (a.put o.dst (.agg cells)) w) : wpList P ops Q (o :: rest) a w :=
  wpList_plain hg fun _ hK => wp_build_list t parts ho vals hv cells hb (hK _ _ h)

theorem wpList_build_list_g {ops : Array Oper} {rest : List Oper} {o : Oper} {a : Act} {w : World} {Q : Exit → Act → World → Prop} (hw : Region.wanted o (yielded ops a.tmps) = true) (t : TypeId) (parts : Array (Nat × Operand)) (ho : o.op = .build t parts) (vals : List (Nat × Value))
    (hv : parts.toList.map (fun p => (p.1, a.eval p.2)) = vals) (cells : Array Value) (hb : P.built t vals = some cells) (h : wpList P ops Q rest (a.put o.dst (.agg cells)) w) : wpList P ops Q (o :: rest) a w := by
  unfold wpList
  rw [if_pos hw]
  exact .inl (wp_build_list t parts ho vals hv cells hb h)
theorem wpList_load_mid_g {ops : Array Oper} {rest : List Oper} {op : Oper} {a : Act} {w : World} {Q : Exit → Act → World → Prop} (hw : Region.wanted op (yielded ops a.tmps) = true) (ty : TypeId) (x : Operand) (ho : op.op = .load ty x)
    (b o : Nat) (hx : a.eval x = .pointer (some ⟨b, o, none⟩)) (cs : List Value) (d : TypeDesc) (hc : w.rangeAt b o cs)
    (hu : P.underlying ty = some d) (hd : d.isRow = true) (hi : (P.info? ty).map (·.size) = some cs.length)
    (h : wpList P ops Q rest (a.put op.dst (.agg cs.toArray)) w) : wpList P ops Q (op :: rest) a w := by
  unfold wpList
  rw [if_pos hw]
  exact .inl (wp_load_mid ty x ho b o hx cs d hc hu hd hi h)

/-- What a part lays over some cells. -/
def lay (off : Nat) (vs cs : List Value) : List Value := cs.take off ++ (vs ++ cs.drop (off + vs.length))
theorem lay_length {off : Nat} {vs cs : List Value} (h : off + vs.length ≤ cs.length) : (lay off vs cs).length = cs.length := by
  simp only [lay, List.length_append, List.length_take, List.length_drop]; omega
theorem fold_lay (off : Nat) : ∀ (vs : List Value) (k : Nat) (cs : Array Value), off + k + vs.length ≤ cs.size →
    ((vs.zipIdx k).foldl (fun (cs : Array Value) x => cs.setIfInBounds (off + x.2) x.1) cs).toList = lay (off + k) vs cs.toList
  | [], k, cs, _ => by simp [lay]
  | v :: vs, k, cs, h => by
    simp only [List.length_cons] at h
    rw [List.zipIdx_cons, List.foldl_cons, fold_lay off vs (k + 1) _ (by simp; omega)]
    have ho : off + k < cs.toList.length := by simp; omega
    simp only [lay, Array.toList_setIfInBounds, List.length_cons]
    rw [List.set_eq_take_append_cons_drop, if_pos ho]
    have hto : (cs.toList.take (off + k)).length = off + k := by rw [List.length_take]; omega
    rw [List.take_append, List.take_of_length_le (by omega), hto, show off + (k + 1) - (off + k) = 1 by omega, List.take_succ_cons, List.take_zero, List.drop_append, List.drop_of_length_le (by omega), hto, List.nil_append,
      show off + (k + 1) + vs.length - (off + k) = vs.length + 1 by omega, List.drop_succ_cons, List.drop_drop, show off + k + 1 + vs.length = off + k + (vs.length + 1) by omega]
    simp
theorem fill_one {place : Nat → Option (Nat × Nat)} {cells : Array Value} {i : Nat} {v : Value} {rest : List (Nat × Value)} (off size : Nat) (hp : place i = some (off, size)) (hs : v.cells.size = size) (hl : off + size ≤ cells.size) :
    Instr.fill place cells ((i, v) :: rest) = Instr.fill place (lay off v.cells.toList cells.toList).toArray rest := by
  have hc : ¬ (v.cells.size ≠ size || off + v.cells.size > cells.size) = true := by simp [hs]; omega
  rw [Instr.fill, hp]
  simp only [hc]
  have := fold_lay off v.cells.toList 0 cells (by simp [hs]; omega)
  simp only [Bool.false_eq_true, if_false]
  congr 1
  apply Array.ext'
  rw [← Array.foldl_toList, Array.toList_zipIdx]
  simpa using this
theorem built_struct {t : TypeId} {fields : Array Field} {z : Value} {places : List (Nat × Nat)} (hi : (P.info? t).map (·.zero) = some (some z)) (hu : P.underlying t = some (.struct fields))
    (hp : (fields.toList.mapM fun f => (P.info? f.type).map fun i => (f.offset, i.size)) = some places) (parts : List (Nat × Value)) : P.built t parts = Instr.fill (places.toArray[·]?) z.cells parts := by
  cases hq : P.info? t with
  | none => simp [hq] at hi
  | some i =>
    simp only [hq, Option.map_some, Option.some.injEq] at hi
    simp only [Program.built, hq, hu, hi, hp]
theorem built_array {t e : TypeId} {n size : Nat} {z : Value} (hi : (P.info? t).map (·.zero) = some (some z)) (hu : P.underlying t = some (.array n e)) (he : (P.info? e).map (·.size) = some size) (parts : List (Nat × Value)) :
    P.built t parts = Instr.fill (fun i => some (i * size, size)) z.cells parts := by
  cases hq : P.info? t with
  | none => simp [hq] at hi
  | some i =>
    cases hr : P.info? e with
    | none => simp [hr] at he
    | some ie =>
      simp only [hq, Option.map_some, Option.some.injEq] at hi
      simp only [hr, Option.map_some, Option.some.injEq] at he
      simp only [Program.built, hq, hu, hi, hr, he]

/-- A slice literal of one element. -/
theorem run_slice_one {t e : TypeId} {size : Nat} {z v : Value} (hu : P.underlying t = some (.slice e)) (hi : (P.info? e).map (fun i => (i.zero, i.size)) = some (some z, size)) (hpos : 0 < size) (hsm : size ≤ 16777216) (hv : v.cells.size = size) (w : World) :
    (Instr.buildSlice t 1 #[(0, v)]).run P w = .ok (.slice (some ⟨w.heap.size, 0, none⟩) 1 1) (w.alloc (.cells v.cells e)) := by
  cases hq : P.info? e with
  | none => simp [hq] at hi
  | some i =>
    simp only [hq, Option.map_some, Option.some.injEq, Prod.mk.injEq] at hi
    obtain ⟨hz, hs⟩ := hi
    have hf : Instr.fill (fun k => some (k * i.size, i.size)) ((Array.range (1 * i.size)).map (z.cells[· % z.cells.size]!)) [(0, v)] = some v.cells := by
      rw [fill_one (0 * i.size) i.size rfl (by rw [hv, hs]) (by simp)]
      simp only [Instr.fill, Option.some.injEq]
      apply Array.ext'
      simp only [lay, Nat.zero_mul, List.take_zero, List.nil_append, Nat.zero_add]
      rw [List.drop_of_length_le (by simp [hv, hs])]
      simp
    have h1 : ¬ 1 * i.size > 2 ^ 24 := by rw [hs]; simp only [Nat.one_mul]; omega
    have h2 : ¬ 1 * i.size = 0 := by rw [hs]; omega
    simp only [Nat.one_mul] at hf h1 h2
    simp [Instr.buildSlice, run_underlying hu, sizeOf, typeInfo, zeroValue, hq, hz, h1, h2, hf, newRow]

theorem wp_slice_one {o : Oper} {a : Act} {w : World} {K : Act → World → Prop} {Q : Exit → Act → World → Prop} (t e : TypeId) (x : Operand) (ho : o.op = .buildSlice t 1 #[(0, x)]) (size : Nat) (z v : Value) (hx : a.eval x = v)
    (hu : P.underlying t = some (.slice e)) (hi : (P.info? e).map (fun i => (i.zero, i.size)) = some (some z, size)) (hpos : 0 < size) (hsm : size ≤ 16777216) (hv : v.cells.size = size)
    (h : K (a.put o.dst (.slice (some ⟨w.heap.size, 0, none⟩) 1 1)) (w.alloc (.cells v.cells e))) : o.wp P a w K Q := by
  unfold Oper.wp execOp
  simp only [ho, List.map_toArray, List.map_cons, List.map_nil, hx, Sem.run_bind, run_slice_one hu hi hpos hsm hv, Result.andThen_ok]
  exact h
theorem wpList_slice_one {ops : Array Oper} {rest : List Oper} {o : Oper} {a : Act} {w : World} {Q : Exit → Act → World → Prop} (hg : o.guard = none) (t e : TypeId) (x : Operand) (ho : o.op = .buildSlice t 1 #[(0, x)]) (size : Nat) (z v : Value) (hx : a.eval x = v)
    (hu : P.underlying t = some (.slice e)) (hi : (P.info? e).map (fun i => (i.zero, i.size)) = some (some z, size)) (hpos : 0 < size) (hsm : size ≤ 16777216) (hv : v.cells.size = size)
    (h : wpList P ops Q rest (a.put o.dst (.slice (some ⟨w.heap.size, 0, none⟩) 1 1)) (w.alloc (.cells v.cells e))) : wpList P ops Q (o :: rest) a w :=
  wpList_plain hg fun _ hK => wp_slice_one t e x ho size z v hx hu hi hpos hsm hv (hK _ _ h)
theorem step_slice_one {ops : Array Oper} {o : Oper} {a : Act} {w : World} {K : Act → World → Prop} {Q : Exit → Act → World → Prop} {E : Prop} (hg : o.guard = none) (t e : TypeId) (x : Operand) (ho : o.op = .buildSlice t 1 #[(0, x)]) (size : Nat) (z v : Value) (hx : a.eval x = v)
    (hu : P.underlying t = some (.slice e)) (hi : (P.info? e).map (fun i => (i.zero, i.size)) = some (some z, size)) (hpos : 0 < size) (hsm : size ≤ 16777216) (hv : v.cells.size = size)
    (h : K (a.put o.dst (.slice (some ⟨w.heap.size, 0, none⟩) 1 1)) (w.alloc (.cells v.cells e))) : if Region.wanted o (yielded ops a.tmps) = true then Oper.wp P o a w K Q else E := by
  have hw : Region.wanted o (yielded ops a.tmps) = true := by simp [Region.wanted, hg]
  rw [if_pos hw]
  exact wp_slice_one t e x ho size z v hx hu hi hpos hsm hv h
theorem step_build_as {ops : Array Oper} {o : Oper} {a : Act} {w : World} {K : Act → World → Prop} {Q : Exit → Act → World → Prop} {E : Prop} (hg : o.guard = none) (t : TypeId) (parts : Array (Nat × Operand)) (ho : o.op = .build t parts) (cells : Array Value)
    (hb : P.built t (parts.map fun (i, x) => (i, a.eval x)).toList = some cells) (h : K (a.put o.dst (.agg cells)) w) : if Region.wanted o (yielded ops a.tmps) = true then Oper.wp P o a w K Q else E := by
  have hw : Region.wanted o (yielded ops a.tmps) = true := by simp [Region.wanted, hg]
  rw [if_pos hw]
  exact wp_build_as t parts ho cells hb h

/-- Results, the first of which lies in a block. -/
theorem res_cell_tmp {fn : Func} {p q : Tmp} {ty : TypeId} (h : fn.results = #[.cell p ty, .tmp q]) (tmps : Array Value) (w : World) (g : Nat) (t : TypeId) (cs : Array Value) (fr : Nat × Nat) (d : TypeDesc) (v : Value)
    (hp : tmps.getD p undef = .pointer (some ⟨g, 0, none⟩)) (hq : tmps.getD q undef = v) (hg : w.heap[g]? = some (.cells cs t fr))
    (hu : P.underlying ty = some d) (hd : d.isRow = true) (hi : (P.info? ty).map (·.size) = some cs.size) : (results fn tmps).run P w = .ok (.tuple #[.agg cs, v]) w := by
  have hp' : tmps[p]?.getD undef = .pointer (some ⟨g, 0, none⟩) := by simpa using hp
  have hq' : tmps[q]?.getD undef = v := by simpa using hq
  have hl := load_block hg d hu hd hi
  simp [results, h, hp', hq', asAddr, hl]
theorem res_cell {fn : Func} {p : Tmp} {ty : TypeId} (h : fn.results = #[.cell p ty]) (tmps : Array Value) (w : World) (g : Nat) (t : TypeId) (cs : Array Value) (fr : Nat × Nat) (d : TypeDesc)
    (hp : tmps.getD p undef = .pointer (some ⟨g, 0, none⟩)) (hg : w.heap[g]? = some (.cells cs t fr))
    (hu : P.underlying ty = some d) (hd : d.isRow = true) (hi : (P.info? ty).map (·.size) = some cs.size) : (results fn tmps).run P w = .ok (.agg cs) w := by
  have hp' : tmps[p]?.getD undef = .pointer (some ⟨g, 0, none⟩) := by simpa using hp
  have hl := load_block hg d hu hd hi
  simp [results, h, hp', asAddr, hl]

/-- Cells of a make. -/
theorem made_rows (z : List Value) (hz : 0 < z.length) (n : Nat) : madeCells z.toArray (n * z.length) = (List.replicate n z).flatten.toArray := by
  apply Array.ext_getElem?
  intro x
  have hk : ∀ r ∈ List.replicate n z, r.length = z.length := fun r hr => by rw [(List.mem_replicate.1 hr).2]
  have e0 : ((List.replicate n z).flatten.toArray)[x]? = (List.replicate n z).flatten[x]? := List.getElem?_toArray ..
  rw [e0]
  by_cases hx : x < n * z.length
  · have e : x = x / z.length * z.length + x % z.length := by rw [Nat.mul_comm]; exact (Nat.div_add_mod x z.length).symm
    have hm := Nat.mod_lt x hz
    have hd : x / z.length < n := (Nat.div_lt_iff_lt_mul hz).2 hx
    have e1 : (List.replicate n z).flatten[x]? = (List.replicate n z).flatten[x / z.length * z.length + x % z.length]? := by rw [← e]
    rw [e1, flat_get hk _ _ hm, List.getElem?_replicate, if_pos hd]
    simp only [Option.bind_some]
    rw [Array.getElem?_eq_getElem (by simpa [madeCells] using hx), List.getElem?_eq_getElem hm]
    simp [madeCells, hm]
  · have hl := flat_len hk
    simp only [List.length_replicate] at hl
    rw [List.getElem?_eq_none (by omega), Array.getElem?_eq_none (by simp [madeCells]; omega)]
theorem run_make_rows {t e : TypeId} {z : List Value} {bytes : Nat} (hu : P.underlying t = some (.slice e)) (hi : (P.info? e).map (fun i => (i.zero, i.size, i.bytes)) = some (some (.agg z.toArray), z.length, bytes)) (hz : 0 < z.length)
    (n : Nat) (hb : bytes * n ≤ 281474976710656) (hn : n ≤ 9223372036854775807) (w : World) :
    (Instr.makeSlice t (.int .i64 (n : Int)) (.int .i64 (n : Int))).run P w = .ok (.slice (some ⟨w.heap.size, 0, none⟩) n n) (w.alloc (.cells (List.replicate n z).flatten.toArray e)) := by
  obtain ⟨i, hq, hzz⟩ := Option.map_eq_some_iff.1 hi
  simp only [Prod.mk.injEq] at hzz
  obtain ⟨h0, h1, h2⟩ := hzz
  have hb' : (i.bytes : Int) * (n : Int) ≤ 281474976710656 := by
    have h : ((i.bytes * n : Nat) : Int) ≤ 281474976710656 := by rw [h2]; omega
    rwa [Int.natCast_mul] at h
  have hr := run_make (P := P) w t e i (.agg z.toArray) hu hq h0 .i64 .i64 n n (by omega) (Int.le_refl _) hb' (by omega)
  simp only [Int.toNat_natCast] at hr
  rw [hr]
  congr 3
  rw [← made_rows z hz n, h1]
  rfl
end
end Go.Proofs.Ytogkibikghbghaa.Fg
