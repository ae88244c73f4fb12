/- The walk of the law FrameTorn. There are no conditions beyond each lemma's own hypotheses. -/
import Derived.Test.YtbpmakfgjdjmaaaFgFrameLaws2
import Derived.Deep.Grids
set_option linter.unusedVariables false
set_option linter.unusedSimpArgs false
namespace Go.Proofs.Ytbpmakfgjdjmaaa.Frame
open Go.RowKit Go.Proofs.Ytbpmakfgjdjmaaa.Fg Go.Proofs.Ytbpmakfgjdjmaaa.Crc Go.Proofs.Ytbpmakfgjdjmaaa.Disk Go.ChangeShapes Go.WideShapes Go.ChangeAt

def blv (l : List Bool) : List Value := l.map Value.bool
/-- A slice of bools that came in. -/
theorem open_bools_arg {H : Type} {enc : TypeId × Value → H} {w : World} {held : Bool} {v : Value} {d : DataW H} {p : List MemPlace} {b0 : Nat} {r : Reach}
    (hv : Value.okWide Try.prog w r b0 42 v) (h : DataW.Trod enc Try.prog w 0 (fun _ => true) held 42 v d p) :
    ∃ (A : Option Addr) (c : Nat) (l : List Bool), v = .slice A l.length c ∧ Fg.Src w A l.length c (blv l) := by
  obtain ⟨a0, len0, cap0, rfl⟩ := okWide_slice Try.underlying42 hv
  obtain ⟨fuel, hf⟩ := h
  have hf' : DataW.trod enc Try.prog w 0 (fun _ => true) held fuel 42 [.slice a0 len0 cap0] = some (d, p) := hf
  rcases Go.Deep.open_bools Try.underlying42 Try.underlying4 (by kernel_rfl) hf' with ⟨hcs, _⟩ | ⟨a, len, cap, B, hcs, _, hl, hm, _, hcell⟩
  · injection hcs with hcs
    rw [hcs]
    exact ⟨none, 0, [], rfl, ⟨fun _ => ⟨rfl, rfl⟩, Nat.le_refl _, by simp [maxLen], fun _ h => by cases h⟩⟩
  · injection hcs with hcs
    have hll : ((List.range len).map B).length = len := by simp
    refine ⟨some a, cap, (List.range len).map B, by rw [hcs, hll], ⟨(fun h => by cases h), by rw [hll]; exact hl, hm, fun ad had j u hu => ?_⟩⟩
    injection had with had
    subst had
    have hj : j < len := by
      have := (List.getElem?_eq_some_iff.1 hu).1
      simpa [blv] using this
    rw [hcell j (by omega), ← hu]
    simp [blv, hj]


/-! copy of rows of many cells. -/
theorem run_copy_rows {P : Program} (w : World) (dT sT ty elem : TypeId) (k g o dLen dCap : Nat) (a : Addr) (sLen sCap : Nat) (cur : Array Value) (t : TypeId) (cs : List Value)
    (hu : P.underlying dT = some (.slice elem)) (hs : (P.info? elem).map (·.size) = some k)
    (hg : w.heap[g]? = some (.cells cur t (0, 0))) (hn : cs.length = Nat.min sLen dLen * k)
    (hsrc : ∀ j v, cs[j]? = some v → w.cell? (a.add j) = some v) (hfit : o + cs.length ≤ cur.size) (h1 : ∀ v ∈ cs, v.oneCell' = true) :
    (Builtin.copy_ #[dT, sT] ty #[.slice (some ⟨g, o, none⟩) dLen dCap, .slice (some a) sLen sCap]).run P w =
      .ok (goInt (Nat.min sLen dLen)) (w.setRow g (cur.toList.take o ++ (cs ++ cur.toList.drop (o + cs.length))).toArray) := by
  have hl := run_loadCells_list (P := P) w a cs hsrc
  have hst := run_storeCells_at P g o t cs 0 cur w hg (by simpa using hfit) h1
  cases hq : P.info? elem with
  | none => simp [hq] at hs
  | some i =>
    have hi : i.size = k := by simpa [hq] using hs
    simp [Builtin.copy_, run_underlying hu, Builtin.lenOf, Builtin.firstCells, sizeOf, typeInfo, hq, hi, ← hn, hl, hst]
theorem wpList_copy_rows {P : Program} {w : World} {ops : Array Oper} {rest : List Oper} {o : Oper} {a : Act} {Q : Exit → Act → World → Prop} (hgd : o.guard = none) (d s : Operand) (dT sT : TypeId)
    (ho : o.op = .call { callee := .builtin .copy, args := #[d, s], argTypes := #[dT, sT] }) (elem : TypeId) (k : Nat) (hu : P.underlying dT = some (.slice elem)) (hsz : (P.info? elem).map (·.size) = some k)
    (g off dLen dCap : Nat) (ad : Addr) (sLen sCap : Nat) (hd : a.eval d = .slice (some ⟨g, off, none⟩) dLen dCap) (hs : a.eval s = .slice (some ad) sLen sCap)
    (cur : Array Value) (t : TypeId) (hg : w.heap[g]? = some (.cells cur t (0, 0))) (cs : List Value) (hn : cs.length = Nat.min sLen dLen * k)
    (hsrc : ∀ j v, cs[j]? = some v → w.cell? (ad.add j) = some v) (hfit : off + cs.length ≤ cur.size) (h1 : ∀ v ∈ cs, v.oneCell' = true)
    (new : List Value) (hnew : cur.toList.take off ++ (cs ++ cur.toList.drop (off + cs.length)) = new) (B : Nat) (w0 : World) (hb : Below B w0 w) (hBg : B ≤ g)
    (h : ∀ w', Hid (w'.heap[g]? = some (.cells new.toArray t (0, 0))) → Hid (Below B w0 w') → wpList P ops Q rest (a.put o.dst (goInt (Nat.min sLen dLen))) w') : wpList P ops Q (o :: rest) a w := by
  refine wpList_plain hgd fun K hK => ?_
  have hrun := run_copy_rows (P := P) w dT sT o.type elem k g off dLen dCap ad sLen sCap cur t cs hu hsz hg hn hsrc hfit h1
  unfold Oper.wp
  simp [execOp, ho, resolve, invoke, builtin, hd, hs, hrun, Result.andThen]
  rw [hnew]
  exact hK _ _ (h _ (Lib.hid (setRow_at _ hg)) (Lib.hid (below_setRow hb hBg _)))

/-- In a region that only reads: a load of many cells. -/
theorem quiet_load_mid {P : Program} {ops : Array Oper} {C : World → Prop} {Q : Act → Prop} {rest : List Oper} {op : Oper} {a : Act} (hw : Region.wanted op (yielded ops a.tmps) = true) (ty : TypeId) (x : Operand) (ho : op.op = .load ty x)
    (b o : Nat) (hx : a.eval x = .pointer (some ⟨b, o, none⟩)) (cs : List Value) (d : TypeDesc) (hc : ∀ w, C w → w.rangeAt b o cs) (hu : P.underlying ty = some d) (hd : d.isRow = true) (hi : (P.info? ty).map (·.size) = some cs.length)
    (h : wpQuiet P ops C Q rest (a.put op.dst (.agg cs.toArray))) : wpQuiet P ops C Q (op :: rest) a := by
  unfold wpQuiet
  rw [if_pos hw]
  refine ⟨.agg cs.toArray, fun w hC => ?_, h⟩
  unfold Oper.quietAt execOp
  simp only [ho, hx, Sem.run_bind, run_loadAt_mid w b o ty cs d (hc w hC) hu hd hi, Result.andThen_ok]
  exact ⟨rfl, rfl⟩

/-! Some sectors of one record in the place of those of another one. -/
def mixed (D K : List (List Int)) (keep : List Bool) : Nat → List (List Int)
  | 0 => D
  | j + 1 => if keep.getD j false then (mixed D K keep j).set j (K.getD j noSec) else mixed D K keep j
def wholeTo (D K : List (List Int)) (keep : List Bool) : Nat → Bool
  | 0 => true
  | j + 1 => wholeTo D K keep j && decide ((mixed D K keep (j + 1)).getD j noSec = K.getD j noSec)
theorem mixed_length (D K : List (List Int)) (keep : List Bool) : ∀ j, (mixed D K keep j).length = D.length
  | 0 => rfl
  | j + 1 => by
    rw [mixed]
    split
    · rw [List.length_set, mixed_length D K keep j]
    · exact mixed_length D K keep j
theorem noSec_small : Small noSec := fun x hx => by rw [(List.mem_replicate.1 hx).2]; omega
theorem getD_secs {K : List (List Int)} (h : Secs K) (j : Nat) : (K.getD j noSec).length = 64 ∧ Small (K.getD j noSec) := by
  rw [List.getD_eq_getElem?_getD]
  by_cases hj : j < K.length
  · rw [List.getElem?_eq_getElem hj]; exact ⟨h.len _ (List.getElem_mem hj), h.small _ (List.getElem_mem hj)⟩
  · rw [List.getElem?_eq_none (by omega)]; exact ⟨noSec64, noSec_small⟩
theorem mixed_ok {D K : List (List Int)} (hD : Secs D) (hK : Secs K) (keep : List Bool) : ∀ j, Secs (mixed D K keep j)
  | 0 => hD
  | j + 1 => by
    have ih := mixed_ok hD hK keep j
    rw [mixed]
    split
    · refine ⟨fun s hs => ?_, fun s hs => ?_⟩
      · rcases List.mem_or_eq_of_mem_set hs with h | rfl
        · exact ih.len s h
        · exact (getD_secs hK j).1
      · rcases List.mem_or_eq_of_mem_set hs with h | rfl
        · exact ih.small s h
        · exact (getD_secs hK j).2
    · exact ih
theorem mixed_later (D K : List (List Int)) (keep : List Bool) {i j : Nat} (hij : i < j) : ∀ d, (mixed D K keep (j + d)).getD i noSec = (mixed D K keep j).getD i noSec
  | 0 => rfl
  | d + 1 => by
    rw [← mixed_later D K keep hij d, show j + (d + 1) = (j + d) + 1 by omega, mixed]
    split
    · simp only [List.getD_eq_getElem?_getD]
      rw [List.getElem?_set_ne (by omega)]
    · rfl
theorem wholeTo_all (D K : List (List Int)) (keep : List Bool) : ∀ j, wholeTo D K keep j = true → ∀ i, i < j → (mixed D K keep j).getD i noSec = K.getD i noSec
  | 0, _, i, hi => by omega
  | j + 1, h, i, hi => by
    rw [wholeTo, Bool.and_eq_true, decide_eq_true_eq] at h
    by_cases e : i = j
    · subst e; exact h.2
    · have h1 := wholeTo_all D K keep j h.1 i (by omega)
      rw [← h1]
      exact mixed_later D K keep (by omega : i < j) 1
theorem whole_form {D K : List (List Int)} {keep : List Bool} (hl : K.length ≤ D.length) (h : wholeTo D K keep K.length = true) : mixed D K keep K.length = K ++ (mixed D K keep K.length).drop K.length := by
  have hm := mixed_length D K keep K.length
  have e : (mixed D K keep K.length).take K.length = K := by
    refine List.ext_getElem (by rw [List.length_take]; omega) (fun i h1 h2 => ?_)
    have := wholeTo_all D K keep K.length h i h2
    rw [List.getElem_take]
    rw [List.getD_eq_getElem?_getD, List.getD_eq_getElem?_getD, List.getElem?_eq_getElem (by omega), List.getElem?_eq_getElem h2] at this
    exact this
  conv => lhs; rw [← List.take_append_drop K.length (mixed D K keep K.length), e]
/-- Twelve sectors that begin with a record's. -/
def twelve (a : List (List Int)) : List (List Int) := a ++ List.replicate (12 - a.length) noSec
theorem twelve_ok {a : List (List Int)} (h : Secs a) : Secs (twelve a) :=
  h.append ⟨fun s hs => by rw [(List.mem_replicate.1 hs).2]; exact noSec64, fun s hs => by rw [(List.mem_replicate.1 hs).2]; exact noSec_small⟩
theorem twelve_length {a : List (List Int)} (h : a.length ≤ 12) : (twelve a).length = 12 := by simp [twelve]; omega
theorem twelve_cells {a : List (List Int)} (ha : ∀ s ∈ a, s.length = 64) (h : a.length ≤ 12) : (List.replicate 12 (bv noSec)).flatten.take 0 ++ ((sv a).flatten ++ (List.replicate 12 (bv noSec)).flatten.drop (0 + (sv a).flatten.length)) = (sv (twelve a)).flatten := by
  have hk : ∀ r ∈ List.replicate 12 (bv noSec), r.length = 64 := fun r hr => by rw [(List.mem_replicate.1 hr).2, bv_length, noSec64]
  have hl : (sv a).flatten.length = a.length * 64 := by rw [flat_len (sv_len ha)]; simp [sv]
  rw [List.take_zero, List.nil_append, Nat.zero_add, hl, flat_drop hk, List.drop_replicate]
  have e : sv (twelve a) = sv a ++ List.replicate (12 - a.length) (bv noSec) := by
    unfold sv twelve
    rw [List.map_append, List.map_replicate]
  rw [e, List.flatten_append]
end Go.Proofs.Ytbpmakfgjdjmaaa.Frame
