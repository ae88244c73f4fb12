/- Rows of bytes that a call has made: what a store and a copy do to them. General; no conditions beyond each lemma's own hypotheses. -/
import Derived.Test.YtogkibikghbghaaFgBv
import Derived.Deep.MidRow
import Derived.Laws.Tables
import Derived.ChangeKeysEq
import Derived.Laws.StructEq
set_option linter.unusedVariables false
set_option linter.unusedSimpArgs false
namespace Go.Proofs.Ytogkibikghbghaa.Fg
open Go.RowKit

/-- append onto an owned row, as a step of a region that draws its order. -/
theorem wp_append_any {P : Program} {w : World} {o : Oper} {a : Act} {K : Act → World → Prop} {Q : Exit → Act → World → Prop} (s x : Operand) (t : TypeId)
    (ho : o.op = .call { callee := .builtin .append, args := #[s, x], argTypes := #[t, t] })
    (base : Nat) (e : TypeId) (z : Value) (size bytes : Nat) (ht : P.underlying t = some (.slice e)) (hinfo : (P.info? e).map (fun i => (i.zero, i.size, i.bytes)) = some (some z, size, bytes))
    (hzs : z.cells.size = size) (hsz : 0 < size) (hby : 0 < bytes)
    (v : Value) (n : Nat) (xs : List Value) (hs : a.eval s = v) (hown : w.ownsRow base e size v n xs)
    (A : Option Addr) (m c : Nat) (news : List Value) (hx : a.eval x = .slice A m c) (hsrc : Src w A m c news) (hl : news.length = m * size) (h1 : ∀ u ∈ news, u.oneCell' = true)
    (hbytes : (n + m) * bytes ≤ 140737488355328) (hbase : base ≤ w.heap.size)
    (h : ∀ v' w', w'.ownsRow base e size v' (n + m) (xs ++ news) → w.grownBy w' v.ownBlock → (v' = .slice none 0 0 ↔ v = .slice none 0 0 ∧ m = 0) → (v'.ownBlock = v.ownBlock ∨ v'.ownBlock = some w.heap.size) →
      K (a.put o.dst v') w') : Oper.wp P o a w K Q := by
  obtain ⟨i, hi, hzz⟩ := Option.map_eq_some_iff.1 hinfo
  simp only [Prod.mk.injEq] at hzz
  obtain ⟨hz0, hz1, hz2⟩ := hzz
  cases A with
  | none =>
    obtain ⟨rfl, rfl⟩ := hsrc.nil rfl
    have hnews : news = [] := List.eq_nil_of_length_eq_zero (by simpa using hl)
    subst hnews
    have hrun := run_append_owned_none (P := P) (w := w) base t o.type e i size ht hi v n xs hown
    unfold Oper.wp
    simp [execOp, ho, resolve, invoke, builtin, hs, hx, hrun, Result.andThen]
    exact h v w (by simpa using hown) (World.grownBy.refl _ _) ⟨fun e => ⟨e, rfl⟩, fun e => e.1⟩ (.inl rfl)
  | some ad =>
    have h63 : n + m ≤ maxLen := by
      have := Nat.le_trans (Nat.le_mul_of_pos_right (n + m) hby) hbytes
      simp only [maxLen]; omega
    obtain ⟨v', w', hrun, h2, h3, h4, h5⟩ := run_append_own_at (P := P) (w := w) base t o.type e i z size bytes ht hi hz0 hz1 hz2 hzs hsz v n xs hown ad m c news hl (hsrc.cells ad rfl) h1 h63 hbytes hbase
    unfold Oper.wp
    simp only [execOp, ho, resolve, invoke, builtin, Sem.run_bind, Sem.run_pure, Result.andThen_ok, List.map_toArray, List.map_cons, List.map_nil, hs, hx, hrun]
    exact h v' w' h2 h3 h4 h5


theorem step_append_any {P : Program} {w : World} {ops : Array Oper} {o : Oper} {a : Act} {K : Act → World → Prop} {Q : Exit → Act → World → Prop} {E : Prop} (hgd : o.guard = none) (s x : Operand) (t : TypeId)
    (ho : o.op = .call { callee := .builtin .append, args := #[s, x], argTypes := #[t, t] })
    (base : Nat) (e : TypeId) (z : Value) (size bytes : Nat) (ht : P.underlying t = some (.slice e)) (hinfo : (P.info? e).map (fun i => (i.zero, i.size, i.bytes)) = some (some z, size, bytes))
    (hzs : z.cells.size = size) (hsz : 0 < size) (hby : 0 < bytes)
    (v : Value) (n : Nat) (xs : List Value) (hs : a.eval s = v) (hown : w.ownsRow base e size v n xs)
    (A : Option Addr) (m c : Nat) (news : List Value) (hx : a.eval x = .slice A m c) (hsrc : Src w A m c news) (hl : news.length = m * size) (h1 : ∀ u ∈ news, u.oneCell' = true)
    (hbytes : (n + m) * bytes ≤ 140737488355328) (hbase : base ≤ w.heap.size)
    (h : ∀ v' w', w'.ownsRow base e size v' (n + m) (xs ++ news) → w.grownBy w' v.ownBlock → (v' = .slice none 0 0 ↔ v = .slice none 0 0 ∧ m = 0) → (v'.ownBlock = v.ownBlock ∨ v'.ownBlock = some w.heap.size) →
      K (a.put o.dst v') w') : if Region.wanted o (yielded ops a.tmps) = true then Oper.wp P o a w K Q else E := by
  have hw : Region.wanted o (yielded ops a.tmps) = true := by simp [Region.wanted, hgd]
  rw [if_pos hw]
  exact wp_append_any s x t ho base e z size bytes ht hinfo hzs hsz hby v n xs hs hown A m c news hx hsrc hl h1 hbytes hbase h
/-- The same at an operation with a guard that holds. -/
theorem wpList_append_g {P : Program} {w : World} {ops : Array Oper} {rest : List Oper} {o : Oper} {a : Act} {Q : Exit → Act → World → Prop} (hw : Region.wanted o (yielded ops a.tmps) = true) (s x : Operand) (t : TypeId)
    (ho : o.op = .call { callee := .builtin .append, args := #[s, x], argTypes := #[t, t] })
    (base : Nat) (e : TypeId) (z : Value) (size bytes : Nat) (ht : P.underlying t = some (.slice e)) (hinfo : (P.info? e).map (fun i => (i.zero, i.size, i.bytes)) = some (some z, size, bytes))
    (hzs : z.cells.size = size) (hsz : 0 < size) (hby : 0 < bytes)
    (v : Value) (n : Nat) (xs : List Value) (hs : a.eval s = v) (hown : w.ownsRow base e size v n xs)
    (A : Option Addr) (m c : Nat) (news : List Value) (hx : a.eval x = .slice A m c) (hsrc : Src w A m c news) (hl : news.length = m * size) (h1 : ∀ u ∈ news, u.oneCell' = true)
    (hbytes : (n + m) * bytes ≤ 140737488355328) (hbase : base ≤ w.heap.size)
    (h : ∀ v' w', w'.ownsRow base e size v' (n + m) (xs ++ news) → w.grownBy w' v.ownBlock → (v' = .slice none 0 0 ↔ v = .slice none 0 0 ∧ m = 0) → (v'.ownBlock = v.ownBlock ∨ v'.ownBlock = some w.heap.size) →
      wpList P ops Q rest (a.put o.dst v') w') : wpList P ops Q (o :: rest) a w := by
  unfold wpList
  rw [if_pos hw]
  exact .inl (wp_append_any s x t ho base e z size bytes ht hinfo hzs hsz hby v n xs hs hown A m c news hx hsrc hl h1 hbytes hbase h)
/-- A row of bytes at the head of a block. -/
def Row (w : World) (base g n c : Nat) (l : List Int) : Prop := w.ownsRow base 5 1 (.slice (some ⟨g, 0, none⟩) n c) n (bv l)
theorem Row.len {w : World} {base g n c : Nat} {l : List Int} (h : Row w base g n c l) : l.length = n := by have := h.1; simpa [bv] using this
theorem Row.base_le {w : World} {base g n c : Nat} {l : List Int} (h : Row w base g n c l) : base ≤ g ∧ g < w.heap.size := h.lt g rfl
theorem Row.cell {w : World} {base g n c : Nat} {l : List Int} (h : Row w base g n c l) (j : Nat) (hj : j < l.length) : w.cell? ⟨g, j, none⟩ = some (.int .u8 l[j]) := by
  have hl := h.len
  have := World.ownsRow.cellAt h j (by omega)
  rw [this, bv, List.getElem?_map, List.getElem?_eq_getElem hj]
  rfl
theorem Row.free {w : World} {base g n c : Nat} {l : List Int} (h : Row w base g n c l) (j : Nat) : w.frozen? ⟨g, j, none⟩ = false := World.ownsRow.frozenAt h j
theorem Row.src {w : World} {base g n c : Nat} {l : List Int} (h : Row w base g n c l) : Src w (some ⟨g, 0, none⟩) n c (bv l) := Src.of_own h
theorem Row.store {w : World} {base g n c : Nat} {l : List Int} (h : Row w base g n c l) (j : Nat) (x : Int) : Row (w.setCell ⟨g, j, none⟩ (.int .u8 x)) base g n c (l.set j x) := by
  have := (World.ownsRow.stored h j (.int .u8 x)).1
  unfold Row
  rw [show bv (l.set j x) = (bv l).set j (.int .u8 x) by simp [bv, List.map_set]]
  exact this
theorem Row.keep {S : Nat → Prop} {w w' : World} {base g n c : Nat} {l : List Int} (h : Row w base g n c l) (hk : Keep S w w') (hs : ¬ S g) : Row w' base g n c l := own_keep h hk (fun k e => by injection e with e; rw [← e]; exact hs)
theorem Row.below {w w' : World} {base g n c : Nat} {l : List Int} (h : Row w base g n c l) (hb : Below w.heap.size w w') : Row w' base g n c l := own_same h fun k e => by
  injection e with e
  subst e
  exact hb.block _ h.base_le.2
/-- An owned row that is not empty is a row at the head of a block. -/
theorem row_of_own {w : World} {base n : Nat} {v : Value} {l : List Int} (h : w.ownsRow base 5 1 v n (bv l)) (hn : 0 < n) : ∃ g c, v = .slice (some ⟨g, 0, none⟩) n c ∧ Row w base g n c l := by
  rcases h.2 with ⟨rfl, h0⟩ | ⟨g, c, cur, rfl, h2⟩
  · omega
  · exact ⟨g, c, rfl, h⟩
theorem src_drew {w : World} {A : Option Addr} {n c : Nat} {vs : List Value} (h : Src w A n c vs) : Src w.drew A n c vs := h.same fun _ _ _ => rfl
theorem Row.drew {w : World} {base g n c : Nat} {l : List Int} (h : Row w base g n c l) : Row w.drew base g n c l := h
theorem below_dr {B : Nat} {w0 w : World} (h : Below B w0 w) : Below B w0 w.drew := ⟨h.os, h.tape, h.output, h.size, h.block⟩
/-- What a copy lays into a row. -/
theorem Row.copied {w : World} {base g n c : Nat} {l : List Int} (h : Row w base g n c l) (off : Nat) (m : List Int) (hm : off + m.length ≤ n) :
    ∃ cur : Array Value, w.heap[g]? = some (.cells cur 5 (0, 0)) ∧ off + (bv m).length ≤ cur.size ∧
      Row (w.setRow g (cur.toList.take off ++ (bv m ++ cur.toList.drop (off + (bv m).length))).toArray) base g n c (l.take off ++ (m ++ l.drop (off + m.length))) ∧
      ∀ B w0, Below B w0 w → B ≤ g → Below B w0 (w.setRow g (cur.toList.take off ++ (bv m ++ cur.toList.drop (off + (bv m).length))).toArray) := by
  have hl := h.len
  obtain ⟨h1, h2⟩ := h
  rcases h2 with ⟨h', _⟩ | ⟨g', c', cur, h', hb, hg, hnc, hcm, hcs, htake⟩
  · simp at h'
  · simp only [Value.slice.injEq, Option.some.injEq, Addr.mk.injEq, and_true, true_and] at h'
    obtain ⟨rfl, rfl⟩ := h'
    have hcl : cur.toList.length = c := by simpa using hcs
    refine ⟨cur, hg, by rw [bv_length]; omega, ⟨by simp [bv]; omega, .inr ⟨g, c, _, rfl, hb, setRow_heap w g _ _ _ _ hg, hnc, hcm, ?_, ?_⟩⟩, fun B w0 hB hBg => below_setRow hB hBg _⟩
    · simp [bv_length]; omega
    · rw [Nat.mul_one] at htake ⊢
      rw [bv_length]
      have e1 : cur.toList.take off = bv (l.take off) := by
        rw [show bv (l.take off) = (bv l).take off by simp [bv, List.map_take], ← htake, List.take_take, Nat.min_eq_left (by omega)]
      have e2 : (cur.toList.drop (off + m.length)).take (n - (off + m.length)) = bv (l.drop (off + m.length)) := by
        rw [show bv (l.drop (off + m.length)) = (bv l).drop (off + m.length) by simp [bv, List.map_drop], ← htake, List.drop_take]
      rw [e1, bv_append, bv_append, ← e2, List.take_append, List.take_of_length_le (by rw [bv_length, List.length_take]; omega), List.take_append]
      rw [List.take_of_length_le (l := bv m) (by rw [bv_length, bv_length, List.length_take]; omega)]
      rw [bv_length, bv_length, List.length_take]
      have e3 : n - min off l.length - m.length = n - (off + m.length) := by omega
      rw [e3]

section
variable {P : Program}
/-- A whole block is read. -/
theorem load_block {w : World} {g : Nat} {cells : Array Value} {t ty : TypeId} {fr : Nat × Nat} (hg : w.heap[g]? = some (.cells cells t fr)) (d : TypeDesc) (hu : P.underlying ty = some d) (hd : d.isRow = true) (hi : (P.info? ty).map (·.size) = some cells.size) :
    (loadVar ty ⟨g, 0, none⟩).run P w = .ok (.agg cells) w := by
  have := run_loadVar_mid (P := P) w g 0 ty cells.toList d (fun j v hv => by rw [Nat.zero_add, cell_of_block hg, ← Array.getElem?_toList]; exact hv) hu hd (by simpa using hi)
  simpa using this
theorem loadAt_block {w : World} {g : Nat} {cells : Array Value} {t ty : TypeId} {fr : Nat × Nat} (hg : w.heap[g]? = some (.cells cells t fr)) (d : TypeDesc) (hu : P.underlying ty = some d) (hd : d.isRow = true) (hi : (P.info? ty).map (·.size) = some cells.size) :
    (Instr.loadAt ty (.pointer (some ⟨g, 0, none⟩))).run P w = .ok (.agg cells) w := by
  simp only [Instr.loadAt, Instr.sureAddr, Sem.run_bind, Sem.run_pure, Result.andThen_ok, load_block hg d hu hd hi]
/-- A whole block is written. -/
theorem storeAt_block {w : World} {g : Nat} {old : Array Value} {t ty : TypeId} (cells : Array Value) (hg : w.heap[g]? = some (.cells old t (0, 0))) (hi : (P.info? ty).map (·.size) = some cells.size) (ho : old.size = cells.size) (h1 : cells.all (·.oneCell') = true) :
    (Instr.storeAt ty (.pointer (some ⟨g, 0, none⟩)) (.agg cells)).run P w = .ok () (w.setRow g cells) := by
  simp only [Instr.storeAt, Instr.sureAddr, Sem.run_bind, Sem.run_pure, Result.andThen_ok, run_storeVar_row w g t ty old cells hg hi ho h1]
theorem wp_store_block {op : Oper} {a : Act} {w : World} {K : Act → World → Prop} {Q : Exit → Act → World → Prop} (ty : TypeId) (x y : Operand) (ho : op.op = .store ty x y)
    (g : Nat) (cells : Array Value) (hx : a.eval x = .pointer (some ⟨g, 0, none⟩)) (hy : a.eval y = .agg cells) (old : Array Value) (t : TypeId)
    (hg : w.heap[g]? = some (.cells old t (0, 0))) (hi : (P.info? ty).map (·.size) = some cells.size) (hs : old.size = cells.size) (h1 : cells.all (·.oneCell') = true)
    (h : K (a.put op.dst undef) (w.setRow g cells)) : op.wp P a w K Q := by
  unfold Oper.wp execOp
  simp only [ho, hx, hy, Instr.storeAt, Instr.sureAddr, Sem.run_bind, Sem.run_pure, Result.andThen_ok, run_storeVar_row w g t ty old cells hg hi hs h1]
  exact h
theorem wpList_store_block {ops : Array Oper} {rest : List Oper} {op : Oper} {a : Act} {w : World} {Q : Exit → Act → World → Prop} (hgd : op.guard = none) (ty : TypeId) (x y : Operand) (ho : op.op = .store ty x y)
    (g : Nat) (cells : Array Value) (hx : a.eval x = .pointer (some ⟨g, 0, none⟩)) (hy : a.eval y = .agg cells) (old : Array Value) (t : TypeId)
    (hg : w.heap[g]? = some (.cells old t (0, 0))) (hi : (P.info? ty).map (·.size) = some cells.size) (hs : old.size = cells.size) (h1 : cells.all (·.oneCell') = true)
    (h : wpList P ops Q rest (a.put op.dst undef) (w.setRow g cells)) : wpList P ops Q (op :: rest) a w :=
  wpList_plain hgd fun _ hK => wp_store_block ty x y ho g cells hx hy old t hg hi hs h1 (hK _ _ h)
theorem wp_load_block {op : Oper} {a : Act} {w : World} {K : Act → World → Prop} {Q : Exit → Act → World → Prop} (ty : TypeId) (x : Operand) (ho : op.op = .load ty x)
    (g : Nat) (hx : a.eval x = .pointer (some ⟨g, 0, none⟩)) (cells : Array Value) (t : TypeId) (fr : Nat × Nat) (hg : w.heap[g]? = some (.cells cells t fr)) (d : TypeDesc) (hu : P.underlying ty = some d) (hd : d.isRow = true) (hi : (P.info? ty).map (·.size) = some cells.size)
    (h : K (a.put op.dst (.agg cells)) w) : op.wp P a w K Q := by
  unfold Oper.wp execOp
  simp only [ho, hx, Instr.loadAt, Instr.sureAddr, Sem.run_bind, Sem.run_pure, Result.andThen_ok, load_block hg d hu hd hi]
  exact h
theorem wpList_load_block {ops : Array Oper} {rest : List Oper} {op : Oper} {a : Act} {w : World} {Q : Exit → Act → World → Prop} (hgd : op.guard = none) (ty : TypeId) (x : Operand) (ho : op.op = .load ty x)
    (g : Nat) (hx : a.eval x = .pointer (some ⟨g, 0, none⟩)) (cells : Array Value) (t : TypeId) (fr : Nat × Nat) (hg : w.heap[g]? = some (.cells cells t fr)) (d : TypeDesc) (hu : P.underlying ty = some d) (hd : d.isRow = true) (hi : (P.info? ty).map (·.size) = some cells.size)
    (h : wpList P ops Q rest (a.put op.dst (.agg cells)) w) : wpList P ops Q (op :: rest) a w :=
  wpList_plain hgd fun _ hK => wp_load_block ty x ho g hx cells t fr hg d hu hd hi (hK _ _ h)
end
/-- Arrays of bytes are held against one another. -/
theorem eqItems_bytes {P : Program} (d : Nat) (e : TypeId) (he : P.underlying e = some (.int .u8)) (hp : P.plainKey e = true) (xs ys : List Int) (w : World) :
    ∀ (m k : Nat), k + m = xs.length → k + m = ys.length → (Op.eqItems (d + 1) e 1 (bv xs).toArray (bv ys).toArray (List.range' k m)).run P w = .ok (decide (xs.drop k = ys.drop k)) w
  | 0, k, h1, h2 => by
    rw [List.drop_eq_nil_of_le (by omega), List.drop_eq_nil_of_le (by omega)]
    simp [Op.eqItems]
  | m + 1, k, h1, h2 => by
    have hx : (bv xs).toArray[k * 1]? = some (.int .u8 (xs[k]'(by omega))) := by simp [bv]
    have hy : (bv ys).toArray[k * 1]? = some (.int .u8 (ys[k]'(by omega))) := by simp [bv]
    have ih := eqItems_bytes d e he hp xs ys w m (k + 1) (by omega) (by omega)
    have e1 : xs.drop k = xs[k]'(by omega) :: xs.drop (k + 1) := List.drop_eq_getElem_cons (by omega)
    have e2 : ys.drop k = ys[k]'(by omega) :: ys.drop (k + 1) := List.drop_eq_getElem_cons (by omega)
    simp only [List.range'_succ, Op.eqItems, Sem.run_bind, run_part_plain w hp hx, run_part_plain w hp hy, Result.andThen_ok, run_equalIn_int w d e _ _ _ _ he, if_true]
    have key : decide (xs.drop k = ys.drop k) = (decide ((xs[k]'(by omega)) = (ys[k]'(by omega))) && decide (xs.drop (k + 1) = ys.drop (k + 1))) := by
      rw [Bool.eq_iff_iff, e1, e2]
      simp only [List.cons.injEq, decide_eq_true_eq, Bool.and_eq_true]
    rw [key]
    by_cases hxy : (xs[k]'(by omega)) = (ys[k]'(by omega))
    · have hb : ((xs[k]'(by omega)) == (ys[k]'(by omega))) = true := beq_iff_eq.2 hxy
      rw [decide_eq_true hxy, Bool.true_and]
      simp only [hb, Bool.not_true, Bool.false_eq_true, if_false, ih]
    · have hb : ((xs[k]'(by omega)) == (ys[k]'(by omega))) = false := beq_eq_false_iff_ne.2 hxy
      rw [decide_eq_false hxy, Bool.false_and]
      simp only [hb, Bool.not_false, if_true, Sem.run_pure]
theorem eq_bytes {P : Program} (d : Nat) {t e : TypeId} {n : Nat} {i : TypeInfo} (hu : P.underlying t = some (.array n e)) (he : P.underlying e = some (.int .u8)) (hi : P.info? e = some i) (hc : P.cellsOf e = 1) (hp : P.plainKey e = true)
    (xs ys : List Int) (hx : xs.length = n) (hy : ys.length = n) (w : World) : (Op.equalIn (d + 2) t (.agg (bv xs).toArray) (.agg (bv ys).toArray)).run P w = .ok (decide (xs = ys)) w := by
  rw [run_equalIn_array w (d + 1) _ _ hu hi, hc, List.range_eq_range', eqItems_bytes d e he hp xs ys w n 0 (by omega) (by omega)]
  simp
theorem setRow_at {w : World} {g : Nat} {old : Array Value} {t : TypeId} {fr : Nat × Nat} (cells : Array Value) (hg : w.heap[g]? = some (.cells old t fr)) : (w.setRow g cells).heap[g]? = some (.cells cells t fr) := setRow_heap w g _ _ t _ hg
end Go.Proofs.Ytogkibikghbghaa.Fg
