/- The law WalRuns of floodgate's log: whatever is done with a log, all answers, where it is, what a scan finds and each sector are the document's. There are no conditions. -/
import Derived.Test.YtogkibikghbghaaFgWords
import Derived.Test.YtogkibikghbghaaFgWrRefs
import Derived.Test.YtogkibikghbghaaFgWrLaid
import Derived.Test.YtogkibikghbghaaFgWalArgs
set_option linter.unusedVariables false
set_option linter.unusedSimpArgs false
namespace Go.Proofs.Ytogkibikghbghaa.Fg
open Go.RowKit

section
variable {P : Program} {ops : Array Oper} {Q : Exit → Act → World → Prop}
def OneStep4 (P : Program) (ops : Array Oper) (Q : Exit → Act → World → Prop) (E : World → World → Prop) (I : (Nat → Bool) → (Nat → Value) → World → Prop) (R : List (Value → World → Prop)) (F : (Nat → Value) → Act) (D : List (List Nat)) (k : Nat) (o : Oper) : Prop :=
  ∀ (d : Nat → Bool) (v : Nat → Value) (w : World), d k = false → I d v w → allTrue d (D.getD k []) → allOf R v w (D.getD k []) → ∀ K : Act → World → Prop, (∀ u w', word R k u w' → I (fun j => if j = k then true else d j) (fun j => if j = k then u else v j) w' → E w w' → K ((F v).put o.dst u) w') →
    if Region.wanted o (yielded ops (F v).tmps) = true then Oper.wp P o (F v) w K Q else K ((F v).put o.dst undef) w
def AllSteps4 (P : Program) (ops : Array Oper) (Q : Exit → Act → World → Prop) (E : World → World → Prop) (I : (Nat → Bool) → (Nat → Value) → World → Prop) (R : List (Value → World → Prop)) (F : (Nat → Value) → Act) (D : List (List Nat)) : Nat → List Oper → Prop
  | _, [] => True
  | k, o :: os => OneStep4 P ops Q E I R F D k o ∧ AllSteps4 P ops Q E I R F D (k + 1) os
theorem AllSteps4.get {E : World → World → Prop} {I : (Nat → Bool) → (Nat → Value) → World → Prop} {R : List (Value → World → Prop)} {F : (Nat → Value) → Act} {D : List (List Nat)} :
    ∀ {os : List Oper} {k i : Nat} {o : Oper}, AllSteps4 P ops Q E I R F D k os → os[i]? = some o → OneStep4 P ops Q E I R F D (k + i) o
  | [], _, _, _, _, h => by simp at h
  | x :: os, k, 0, o, hs, h => by
    simp only [List.getElem?_cons_zero, Option.some.injEq] at h
    subst h
    exact hs.1
  | x :: os, k, i + 1, o, hs, h => by
    simp only [List.getElem?_cons_succ] at h
    have := AllSteps4.get hs.2 h
    rw [show k + 1 + i = k + (i + 1) by omega] at this
    exact this

theorem wpAny_words4 {a0 : Act} {E : World → World → Prop} {I : (Nat → Bool) → (Nat → Value) → World → Prop} (R : List (Value → World → Prop)) (F : (Nat → Value) → Act) (D : List (List Nat))
    (hF : ∀ v, fillFrom a0 v 0 (ops.toList.map (·.dst)) = F v) (hdist : distinctB (ops.toList.map (·.dst)) = true) (hdeps : depsB ops D = true) (hback : backB ops = true)
    (stab : ∀ (j : Nat) (u : Value) (w w' : World), word R j u w → E w w' → word R j u w')
    (steps : AllSteps4 P ops Q E I R F D 0 ops.toList)
    (fin : ∀ (v : Nat → Value) (w : World) (d : Nat → Bool), (∀ j, j < ops.size → d j = true) → I d v w → allOf R v w (List.range ops.size) → Q .normal (F v) w) :
    ∀ (fuel : Nat) (listed : Array Bool) (v : Nat → Value) (w : World), I (fun j => listed.getD j false) v w → listed.size = ops.size → (∀ j, listed.getD j false = true → word R j (v j) w) →
      (listed.toList.count false ≤ fuel) → wpAny P .any ops Q fuel listed (F v) w := by
  intro fuel
  induction fuel with
  | zero =>
    intro listed v w hI hsz hw hc
    have hall : ∀ j, j < ops.size → listed.getD j false = true := by
      intro j hj
      have h0 : List.count false listed.toList = 0 := Nat.le_zero.1 hc
      rw [List.count_eq_zero] at h0
      have hjl : j < listed.size := by omega
      rw [Array.getD_eq_getD_getElem?, Array.getElem?_eq_getElem hjl]
      cases h : listed[j]
      · exact absurd (by rw [← h]; simp) h0
      · rfl
    refine ⟨?_, fin v w _ hall hI (allOf_of fun j hj => hw j (hall j (List.mem_range.1 hj)))⟩
    cases hr : Region.ready .any ops listed with
    | nil => rfl
    | cons i l =>
      have := (mem_ready.1 (hr ▸ List.mem_cons_self .. : i ∈ Region.ready .any ops listed))
      obtain ⟨h1, o, h2, _⟩ := this
      have hlt : i < ops.size := (Array.getElem?_eq_some_iff.1 h2).1
      have := hall i hlt
      have hil : i < listed.size := by omega
      simp [hil] at this h1
      rw [this] at h1; cases h1
  | succ fuel ih =>
    intro listed v w hI hsz hw hc
    refine ⟨?_, ?_⟩
    · intro hr
      by_cases hall : ∀ j, j < ops.size → listed.getD j false = true
      · exact fin v w _ hall hI (allOf_of fun j hj => hw j (hall j (List.mem_range.1 hj)))
      · obtain ⟨j, hj⟩ := Classical.not_forall.1 hall
        obtain ⟨hj1, hj2⟩ := Classical.not_imp.1 hj
        exact absurd hr (ready_of_left hback (j + 1) j (Nat.lt_succ_self _) hj1 hsz (by simpa using hj2))
    · intro i hi
      obtain ⟨h1, o, ho, hall⟩ := mem_ready.1 hi
      have hlt : i < ops.size := (Array.getElem?_eq_some_iff.1 ho).1
      have hil : i < listed.size := by omega
      have hol : ops.toList[i]? = some o := by rw [Array.getElem?_toList]; exact ho
      have hst := AllSteps4.get steps hol
      rw [Nat.zero_add] at hst
      have hdl : ∀ j ∈ D.getD i [], listed.getD j false = true := by
        intro j hj
        simp only [depsB, List.all_eq_true, List.mem_range] at hdeps
        have := hdeps i hlt j hj
        rw [ho] at this
        obtain ⟨e, he, hb⟩ := Array.any_eq_true'.1 this
        simp only [Bool.and_eq_true, beq_iff_eq] at hb
        rw [← hb.2]
        exact hall e he hb.1
      refine wpOp_step ho fun K' hK' => hst _ v w (by simpa [hil] using h1) hI (allTrue_of hdl) (allOf_of fun j hj => hw j (hdl j hj)) K' ?_
      · intro u w' hu hI' hE
        refine hK' _ _ ?_
        have hd : (ops.toList.map (·.dst))[i]? = some o.dst := by rw [List.getElem?_map, hol]; rfl
        rw [← hF, fill_put _ 0 i o.dst u hdist hd, hF]
        refine ih _ _ _ ?_ (by simpa using hsz) ?_ ?_
        · have e : (fun j => (listed.setIfInBounds i true).getD j false) = fun j => if j = i then true else listed.getD j false := by
            funext j
            by_cases e : j = i
            · subst e; simp [hil]
            · rw [if_neg e, getD_set_ne false (Ne.symm e)]
          rw [e]
          simp only [Nat.zero_add]
          exact hI'
        · intro j hj
          by_cases e : j = i
          · subst e; simpa using hu
          · have e2 : ¬ j = 0 + i := by omega
            simp only [e2, if_false]
            refine stab j (v j) w w' (hw j ?_) hE
            rw [getD_set_ne false (Ne.symm e)] at hj
            exact hj
        · have hfi : listed[i] = false := by simpa [hil] using h1
          have e1 : (listed.setIfInBounds i true).toList = listed.toList.set i true := by simp
          rw [e1, List.count_set (by simpa using hil)]
          have h2 : listed.toList[i]'(by simpa using hil) = false := by simpa using hfi
          have hpos : 0 < listed.toList.count false := List.count_pos_iff.2 (by rw [← h2]; exact List.getElem_mem _)
          rw [h2]
          have : ((false == false : Bool) = true) := rfl
          simp only [this, if_true]
          have e3 : ((true == false : Bool) = true) = False := by simp
          simp only [e3, if_false]
          omega
/-- The law, at a region of a walk. -/
theorem wp_region_words4 {id : Nat} {a0 : Act} {w0 : World} (E : World → World → Prop) (I : (Nat → Bool) → (Nat → Value) → World → Prop) (R : List (Value → World → Prop)) (D : List (List Nat)) (N : List Nat) {F : (Nat → Value) → Act}
    (hm : P.follows .mixedOrders = true)
    (hclosed : (distinctB (ops.toList.map (·.dst)) && depsB ops D && backB ops && N == List.range ops.size) = true)
    (hF : ∀ v, fillFrom a0 v 0 (ops.toList.map (·.dst)) = F v) 
    (stand : Stand E (fun _ => True) R) (hI : ∀ v, I (fun _ => false) v w0.drew)
    (steps : AllSteps4 P ops Q E I R F D 0 ops.toList)
    (fin : ∀ (v : Nat → Value) (w : World) (d : Nat → Bool), (∀ j, j < ops.size → d j = true) → I d v w → allOf R v w N → Q .normal (F v) w) : (Code.region id ops true).wp P Q a0 w0 := by
  simp only [Bool.and_eq_true, beq_iff_eq] at hclosed
  obtain ⟨hclosed, rfl⟩ := hclosed
  refine wp_region_any hm ?_
  have h := wpAny_words4 (P := P) (Q := Q) (a0 := a0) R F D hF hclosed.1.1 hclosed.1.2 hclosed.2 (fun j u w w' h1 h2 => stand.get j u w w' h1 trivial h2) steps fin ops.size (Array.replicate ops.size false) (oldOf a0 0 (ops.toList.map (·.dst))) w0.drew (by
      have e : (fun j => (Array.replicate ops.size false).getD j false) = fun _ => false := by
        funext j
        rw [Array.getD_eq_getD_getElem?, Array.getElem?_replicate]
        split <;> rfl
      rw [e]; exact hI _) (by simp)
    (fun j hj => by
      rw [Array.getD_eq_getD_getElem?, Array.getElem?_replicate] at hj
      split at hj <;> simp at hj) (by simp)
  rw [← hF, fill_old _ 0 _ (fun _ _ => rfl)] at h
  exact h
end
end Go.Proofs.Ytogkibikghbghaa.Fg

namespace Go.Proofs.Ytogkibikghbghaa.Wal
open Go.RowKit Go.Proofs.Ytogkibikghbghaa.Fg Go.Proofs.Ytogkibikghbghaa.Frame Go.Proofs.Ytogkibikghbghaa.Disk Go.Proofs.Ytogkibikghbghaa.Area Go.ChangeShapes Go.WideShapes Go.ChangeAt

/-- The log l on the disk d; the document's log m in block mb, its disk r in block wb; and blocks that stay. -/
structure KR (W w : World) (lb g wb mb : Nat) (Q : Nat → Obj → Prop) (l m : Lg) (d r : Dk) (F : Nat → Prop) (C : Array Value) : Prop where
  ls : LS W w lb g l d F
  hwb : w.heap[wb]? = some (.cells C 59 (0, 0))
  ref : IsRef w (.agg C) r (fun k => W.heap.size ≤ k ∧ ¬ F k ∧ k ≠ lb)
  hmb : w.heap[mb]? = some (.cells (rl m) 62 (0, 0))
  nw : ¬ F wb ∧ wb ≠ lb ∧ W.heap.size ≤ wb
  nm : ¬ F mb ∧ mb ≠ lb ∧ W.heap.size ≤ mb
  st : ∀ b o, Q b o → w.heap[b]? = some o ∧ ¬ F b ∧ b ≠ lb ∧ b ≠ wb ∧ b ≠ mb
section
variable {W w w' : World} {lb g wb mb : Nat} {Q : Nat → Obj → Prop} {l m : Lg} {d r d' : Dk} {F : Nat → Prop} {C : Array Value}
theorem KR.step (h : KR W w lb g wb mb Q l m d r F C) (hb : Below w.heap.size w w') : KR W w' lb g wb mb Q l m d r F C :=
  ⟨h.ls.below hb, (hb.block _ (block_lt h.hwb)).trans h.hwb, h.ref.below hb, (hb.block _ (block_lt h.hmb)).trans h.hmb, h.nw, h.nm, fun b o hq => ⟨(hb.block _ (block_lt (h.st b o hq).1)).trans (h.st b o hq).1, (h.st b o hq).2⟩⟩
theorem KR.also (h : KR W w lb g wb mb Q l m d r F C) {Q' : Nat → Obj → Prop} (hq : ∀ b o, Q' b o → Q b o ∨ (w.heap[b]? = some o ∧ ¬ F b ∧ b ≠ lb ∧ b ≠ wb ∧ b ≠ mb)) : KR W w lb g wb mb Q' l m d r F C :=
  ⟨h.ls, h.hwb, h.ref, h.hmb, h.nw, h.nm, fun b o hb => (hq b o hb).elim (h.st b o) id⟩
/-- A block that is new. -/
theorem KR.fresh (h : KR W w lb g wb mb Q l m d r F C) : ¬ F w.heap.size ∧ w.heap.size ≠ lb ∧ w.heap.size ≠ wb ∧ w.heap.size ≠ mb :=
  ⟨fun hf => absurd (h.ls.1.disk.lt _ hf) (Nat.lt_irrefl _), fun e => by have := block_lt h.ls.1.head; omega, fun e => by have := block_lt h.hwb; omega, fun e => by have := block_lt h.hmb; omega⟩
theorem KR.kept {l' : Lg} {F' : Nat → Prop} (h : KR W w lb g wb mb Q l m d r F C) (hl : LS W w' lb g l' d' F') (hk : Keep (fun k => F k ∨ k = lb) w w') (hF : ∀ k, F' k → F k ∨ w.heap.size ≤ k) : KR W w' lb g wb mb Q l' m d' r F' C := by
  have nf : ∀ {b : Nat}, b < w.heap.size → ¬ F b → ¬ F' b := fun hlt hn hf => (hF _ hf).elim hn (fun hge => by omega)
  refine ⟨hl, (hk.block _ (block_lt h.hwb) (fun hs => hs.elim h.nw.1 h.nw.2.1)).trans h.hwb, (h.ref.mono (G' := fun k => (W.heap.size ≤ k ∧ ¬ F k ∧ k ≠ lb) ∧ ¬ F' k) (fun k hlt hk => ⟨hk, nf hlt hk.2.1⟩)).same (fun k hg hlt => hk.block k hlt (fun hs => hs.elim hg.1.2.1 hg.1.2.2)) |>.mono (fun k _ hk => ⟨hk.1.1, hk.2, hk.1.2.2⟩),
    (hk.block _ (block_lt h.hmb) (fun hs => hs.elim h.nm.1 h.nm.2.1)).trans h.hmb, ⟨nf (block_lt h.hwb) h.nw.1, h.nw.2⟩, ⟨nf (block_lt h.hmb) h.nm.1, h.nm.2⟩, fun b o hq => ?_⟩
  obtain ⟨h1, h2, h3, h4⟩ := h.st b o hq
  exact ⟨(hk.block _ (block_lt h1) (fun hs => hs.elim h2 h3)).trans h1, nf (block_lt h1) h2, h3, h4⟩
theorem KR.turn (h : KR W w lb g wb mb Q l m d r F C) (t : Turned w g d' F w') (hs : d'.st.length = d.st.length) (hb : Byt d') : ∃ F', KR W w' lb g wb mb Q l m d' r F' C := by
  obtain ⟨F', h1, h2, h3⟩ := t
  have hlt := block_lt h.ls.1.head
  refine ⟨F', h.kept ⟨⟨h1, (h2.block _ hlt h.ls.1.nf).trans h.ls.1.head, fun hk => (h3 _ hk).elim h.ls.1.nf (fun hk => absurd hlt (Nat.not_lt.2 hk)), by rw [hs]; exact h.ls.1.ok, hb⟩, h.ls.2.1.trans (h2.below h.ls.2.1.size h.ls.2.2.1), fun k hk => (h3 k hk).elim (h.ls.2.2.1 k) (Nat.le_trans h.ls.2.1.size), h.ls.2.2.2⟩ (h2.mono (fun _ _ h => .inl h)) h3⟩
theorem KR.app {p : List Int} {e : Ending} (h : KR W w lb g wb mb Q l m d r F C) (a : AppE w lb g l d F p e w') :
    e = .returned (.tuple #[.int .u64 (l.appN d p), .int .i64 (l.appE d p)]) ∧ ∃ F', KR W w' lb g wb mb Q (l.appL d p) m (l.appD d p) r F' C := by
  obtain ⟨he, -⟩ := h.ls.app a
  obtain ⟨F', -, h2, h3, h4⟩ := a
  exact ⟨he, F', h.kept ⟨h2, h.ls.2.1.trans (h3.below h.ls.2.1.size (fun i hi => hi.elim (h.ls.2.2.1 i) (fun e => e ▸ h.ls.2.2.2))), fun k hk => (h4 k hk).elim (h.ls.2.2.1 k) (Nat.le_trans h.ls.2.1.size), h.ls.2.2.2⟩ h3 h4⟩
theorem KR.wm (h : KR W w lb g wb mb Q l m d r F C) : wb ≠ mb := fun e => by
  have h1 := h.hwb
  rw [e, h.hmb] at h1
  injection h1 with h1
  injection h1 with _ h2 _
  exact absurd h2 (by decide)
theorem KR.setM (h : KR W w lb g wb mb Q l m d r F C) (m' : Lg) : KR W (w.setRow mb (rl m')) lb g wb mb Q l m' d r F C := by
  have same : ∀ k, k ≠ mb → (w.setRow mb (rl m')).heap[k]? = w.heap[k]? := fun k hk => setRow_other _ _ _ _ hk
  refine ⟨⟨⟨h.ls.1.disk.same (fun k hk => same k (fun e => h.nm.1 (e ▸ hk))), (same _ (Ne.symm h.nm.2.1)).trans h.ls.1.head, h.ls.1.nf, h.ls.1.ok, h.ls.1.byt⟩, below_setRow h.ls.2.1 h.nm.2.2 _, h.ls.2.2⟩, (same _ h.wm).trans h.hwb, ?_, setRow_at _ h.hmb, h.nw, h.nm, fun b o hq => ⟨(same _ (h.st b o hq).2.2.2.2).trans (h.st b o hq).1, (h.st b o hq).2⟩⟩
  exact h.ref.boxed h.hmb (by decide) (by decide) (fun k _ hk => same k hk)
theorem KR.setD {C' : Array Value} {r' : Dk} (h : KR W w lb g wb mb Q l m d r F C) (hr : IsRef w (.agg C') r' (fun k => W.heap.size ≤ k ∧ ¬ F k ∧ k ≠ lb)) : KR W (w.setRow wb C') lb g wb mb Q l m d r' F C' := by
  have same : ∀ k, k ≠ wb → (w.setRow wb C').heap[k]? = w.heap[k]? := fun k hk => setRow_other _ _ _ _ hk
  refine ⟨⟨⟨h.ls.1.disk.same (fun k hk => same k (fun e => h.nw.1 (e ▸ hk))), (same _ (Ne.symm h.nw.2.1)).trans h.ls.1.head, h.ls.1.nf, h.ls.1.ok, h.ls.1.byt⟩, below_setRow h.ls.2.1 h.nw.2.2 _, h.ls.2.2⟩, setRow_at _ h.hwb, ?_, (same _ (Ne.symm h.wm)).trans h.hmb, h.nw, h.nm, fun b o hq => ⟨(same _ (h.st b o hq).2.2.2.1).trans (h.st b o hq).1, (h.st b o hq).2⟩⟩
  exact hr.boxed h.hwb (by decide) (by decide) (fun k _ hk => same k hk)
/-- What an operation of the document's hands back is laid into its block. -/
theorem KR.newD {C' : Array Value} {r' : Dk} (h : KR W w lb g wb mb Q l m d r F C) (hb : Below w.heap.size w w') (hr : IsRef w' (.agg C') r' (fun k => (W.heap.size ≤ k ∧ ¬ F k ∧ k ≠ lb) ∨ w.heap.size ≤ k)) : KR W (w'.setRow wb C') lb g wb mb Q l m d r' F C' :=
  (h.step hb).setD (hr.mono (fun k hlt hk => hk.elim id (fun hge => ⟨Nat.le_trans h.ls.2.1.size hge, fun hf => by have := h.ls.1.disk.lt _ hf; omega, fun e => by have := block_lt h.ls.1.head; omega⟩)))
theorem KR.refwb (h : KR W w lb g wb mb Q l m d r F C) : C.size = 5 ∧ C.all (·.oneCell') = true ∧ (Try.prog.info? 59).map (·.size) = some C.size := by
  obtain ⟨C', e, h1, h2⟩ := h.ref.form
  injection e with e
  subst e
  exact ⟨h1, h2, by rw [h1]; exact info_rd⟩
end

/-- What the operations of a drawn region leave: blocks of a log or a disk alone may turn. -/
def EApp (w w' : World) : Prop := ∀ b, b < w.heap.size → w'.heap[b]? = w.heap[b]? ∨ ∃ cs T fr, w.heap[b]? = some (.cells cs T fr) ∧ (T = 62 ∨ T = 59) ∧ ∀ (i : Nat) (x : Int), cs[i]? ≠ some (.int .u8 x)
theorem EApp.below {w w' : World} (hb : Below w.heap.size w w') : EApp w w' := fun b h => .inl (hb.block b h)
theorem EApp.set {w : World} {q : Nat} {cs C : Array Value} {T : TypeId} {fr : Nat × Nat} (h : w.heap[q]? = some (.cells cs T fr)) (hT : T = 62 ∨ T = 59) (hn : ∀ (i : Nat) (x : Int), cs[i]? ≠ some (.int .u8 x)) : EApp w (w.setRow q C) := fun b hb => by
  by_cases e : b = q
  · subst e; exact .inr ⟨cs, T, fr, h, hT, hn⟩
  · exact .inl (setRow_other _ _ _ _ e)
theorem EApp.src {w w' : World} {A : Option Addr} {n c : Nat} {l : List Int} (h : Fg.Src w A n c (bv l)) (he : EApp w w') : Fg.Src w' A n c (bv l) := h.same fun ad had hne => by
  rcases he ad.block (h.lt had hne) with e | ⟨cs, T, fr, h1, h2, h3⟩
  · exact e
  · exact absurd rfl (src_ne h h1 h3 had hne)
theorem EApp.ref {w w' : World} {v : Value} {d : Dk} {G : Nat → Prop} (h : IsRef w v d G) (he : EApp w w') : IsRef w' v d G := by
  obtain ⟨A1, c1, A2, c2, lr, e, r, g⟩ := h
  refine ⟨A1, c1, A2, c2, lr, e, ⟨r.ok, r.few, own_same r.st fun k hk => ?_, own_same r.pd fun k hk => ?_, r.eq, r.wf⟩, g⟩
  · rcases he k (r.st.lt k hk).2 with e | ⟨cs, T, fr, h1, h2, h3⟩
    · exact e
    · exact absurd rfl (own_ne r.st hk h1 (by rcases h2 with rfl | rfl <;> decide))
  · rcases he k (r.pd.lt k hk).2 with e | ⟨cs, T, fr, h1, h2, h3⟩
    · exact e
    · exact absurd rfl (own_ne r.pd hk h1 (by rcases h2 with rfl | rfl <;> decide))
def zL : Array Value := #[.int .u32 0, .int .u64 0, .int .i64 0, .int .i64 0, .int .i64 0]
def zD : Array Value := #[.slice none 0 0, .slice none 0 0, .bool false, .int .i64 0, .bool false]
theorem zL_no (i : Nat) (x : Int) : zL[i]? ≠ some (.int .u8 x) := by
  rcases i with _ | _ | _ | _ | _ | i <;> simp [zL]
theorem zD_no (i : Nat) (x : Int) : zD[i]? ≠ some (.int .u8 x) := by
  rcases i with _ | _ | _ | _ | _ | i <;> simp [zD]
/-- How far an append of the document's is laid. -/
structure IApp (W1 : World) (L2 : Array Value) (r2 : Dk) (G2 : Nat → Prop) (d : Nat → Bool) (v : Nat → Value) (w : World) : Prop where
  bel : Below W1.heap.size W1 w
  lg : d 13 = true → ∃ q, v 13 = .pointer (some ⟨q, 0, none⟩) ∧ W1.heap.size ≤ q ∧ w.heap[q]? = some (.cells (if d 15 = true then L2 else zL) 62 (0, 0))
  dk : d 14 = true → ∃ q cs, v 14 = .pointer (some ⟨q, 0, none⟩) ∧ W1.heap.size ≤ q ∧ w.heap[q]? = some (.cells cs 59 (0, 0)) ∧ (d 16 = false → cs = zD) ∧ (d 16 = true → IsRef w (.agg cs) r2 G2)
  o5 : d 13 = false → d 15 = false
  o6 : d 14 = false → d 16 = false
section
variable {W1 w w' : World} {L2 : Array Value} {r2 : Dk} {G2 : Nat → Prop} {d : Nat → Bool} {v : Nat → Value}
theorem IApp.start (v : Nat → Value) : IApp W1 L2 r2 G2 (fun _ => false) v W1.drew := ⟨Fg.below_dr (Below.refl _ _), (fun h => by cases h), (fun h => by cases h), fun _ => rfl, fun _ => rfl⟩
theorem IApp.step {k : Nat} (h : IApp W1 L2 r2 G2 d v w) (h3 : k ≠ 13) (h4 : k ≠ 14) (h5 : k ≠ 15) (h6 : k ≠ 16) (hb : Below w.heap.size w w') (u : Value) : IApp W1 L2 r2 G2 (fun j => if j = k then true else d j) (fun j => if j = k then u else v j) w' := by
  have e3 : (if 13 = k then true else d 13) = d 13 := if_neg (Ne.symm h3)
  have e4 : (if 14 = k then true else d 14) = d 14 := if_neg (Ne.symm h4)
  have e5 : (if 15 = k then true else d 15) = d 15 := if_neg (Ne.symm h5)
  have e6 : (if 16 = k then true else d 16) = d 16 := if_neg (Ne.symm h6)
  have v3 : (if 13 = k then u else v 13) = v 13 := if_neg (Ne.symm h3)
  have v4 : (if 14 = k then u else v 14) = v 14 := if_neg (Ne.symm h4)
  refine ⟨h.bel.trans (hb.mono h.bel.size), ?_, ?_, by rw [e3, e5]; exact h.o5, by rw [e4, e6]; exact h.o6⟩
  · rw [e3, e5, v3]
    intro hd
    obtain ⟨q, h1, h2, h3⟩ := h.lg hd
    exact ⟨q, h1, h2, (hb.block _ (block_lt h3)).trans h3⟩
  · rw [e4, e6, v4]
    intro hd
    obtain ⟨q, cs, h1, h2, h3, h4, h5⟩ := h.dk hd
    exact ⟨q, cs, h1, h2, (hb.block _ (block_lt h3)).trans h3, h4, fun h6 => (h5 h6).below hb⟩
theorem IApp.did13 (h : IApp W1 L2 r2 G2 d v w) (hd : d 13 = false) : IApp W1 L2 r2 G2 (fun j => if j = 13 then true else d j) (fun j => if j = 13 then .pointer (some ⟨w.heap.size, 0, none⟩) else v j) (w.alloc (.cells zL 62)) := by
  have hb : Below w.heap.size w (w.alloc (.cells zL 62)) := (Below.refl _ _).alloc (Nat.le_refl _) _
  refine ⟨h.bel.trans (hb.mono h.bel.size), fun _ => ⟨w.heap.size, rfl, h.bel.size, ?_⟩, fun hd4 => ?_, (fun h => by cases h), h.o6⟩
  · show (w.alloc _).heap[w.heap.size]? = some (.cells (if d 15 = true then L2 else zL) _ _)
    rw [h.o5 hd]
    exact heap_alloc_at w _
  · obtain ⟨q, cs, h1, h2, h3, h4, h5⟩ := h.dk hd4
    exact ⟨q, cs, h1, h2, (hb.block _ (block_lt h3)).trans h3, h4, fun h6 => (h5 h6).below hb⟩
theorem IApp.did14 (h : IApp W1 L2 r2 G2 d v w) (hd : d 14 = false) : IApp W1 L2 r2 G2 (fun j => if j = 14 then true else d j) (fun j => if j = 14 then .pointer (some ⟨w.heap.size, 0, none⟩) else v j) (w.alloc (.cells zD 59)) := by
  have hb : Below w.heap.size w (w.alloc (.cells zD 59)) := (Below.refl _ _).alloc (Nat.le_refl _) _
  refine ⟨h.bel.trans (hb.mono h.bel.size), fun hd3 => ?_, fun _ => ⟨w.heap.size, zD, rfl, h.bel.size, heap_alloc_at w _, fun _ => rfl, fun h6 => ?_⟩, h.o5, (fun h => by cases h)⟩
  · obtain ⟨q, h1, h2, h3⟩ := h.lg hd3
    exact ⟨q, h1, h2, (hb.block _ (block_lt h3)).trans h3⟩
  · have : d 16 = true := h6
    rw [h.o6 hd] at this
    cases this
theorem IApp.did15 (h : IApp W1 L2 r2 G2 d v w) {q : Nat} (hd : d 13 = true) (hv : v 13 = .pointer (some ⟨q, 0, none⟩)) (hq : W1.heap.size ≤ q) (hw : w.heap[q]? = some (.cells zL 62 (0, 0))) (u : Value) :
    IApp W1 L2 r2 G2 (fun j => if j = 15 then true else d j) (fun j => if j = 15 then u else v j) (w.setRow q L2) := by
  refine ⟨below_setRow h.bel hq _, fun _ => ⟨q, hv, hq, ?_⟩, fun hd4 => ?_, (fun h => by have h : d 13 = false := h; rw [hd] at h; cases h), h.o6⟩
  · exact setRow_at _ hw
  · obtain ⟨q2, cs, h1, h2, h3, h4, h5⟩ := h.dk hd4
    refine ⟨q2, cs, h1, h2, (setRow_other _ _ _ _ (fun e => ?_)).trans h3, h4, fun h6 => EApp.ref (h5 h6) (EApp.set hw (.inl rfl) zL_no)⟩
    subst e
    rw [h3] at hw
    injection hw with hw
    injection hw with _ h7 _
    exact absurd h7 (by decide)
theorem IApp.did16 (h : IApp W1 L2 r2 G2 d v w) {q : Nat} {C : Array Value} (hd : d 14 = true) (hv : v 14 = .pointer (some ⟨q, 0, none⟩)) (hq : W1.heap.size ≤ q) (hw : w.heap[q]? = some (.cells zD 59 (0, 0))) (hr : IsRef w (.agg C) r2 G2) (u : Value) :
    IApp W1 L2 r2 G2 (fun j => if j = 16 then true else d j) (fun j => if j = 16 then u else v j) (w.setRow q C) := by
  refine ⟨below_setRow h.bel hq _, fun hd3 => ?_, fun _ => ⟨q, C, hv, hq, setRow_at _ hw, (fun h => by cases h), fun _ => EApp.ref hr (EApp.set hw (.inr rfl) zD_no)⟩, h.o5, (fun h => by have h : d 14 = false := h; rw [hd] at h; cases h)⟩
  obtain ⟨q2, h1, h2, h3⟩ := h.lg hd3
  refine ⟨q2, h1, h2, (setRow_other _ _ _ _ (fun e => ?_)).trans h3⟩
  subst e
  rw [h3] at hw
  injection hw with hw
  injection hw with _ h7 _
  exact absurd h7 (by decide)
theorem IApp.at15 (h : IApp W1 L2 r2 G2 d v w) (hd : d 13 = true) (h5 : d 15 = false) : ∃ q, v 13 = .pointer (some ⟨q, 0, none⟩) ∧ W1.heap.size ≤ q ∧ w.heap[q]? = some (.cells zL 62 (0, 0)) := by
  obtain ⟨q, h1, h2, h3⟩ := h.lg hd
  rw [h5] at h3
  exact ⟨q, h1, h2, h3⟩
theorem IApp.at16 (h : IApp W1 L2 r2 G2 d v w) (hd : d 14 = true) (h6 : d 16 = false) : ∃ q, v 14 = .pointer (some ⟨q, 0, none⟩) ∧ W1.heap.size ≤ q ∧ w.heap[q]? = some (.cells zD 59 (0, 0)) := by
  obtain ⟨q, cs, h1, h2, h3, h4, _⟩ := h.dk hd
  exact ⟨q, h1, h2, h4 h6 ▸ h3⟩
theorem IApp.fin (h : IApp W1 L2 r2 G2 d v w) (h3 : d 13 = true) (h4 : d 14 = true) (h5 : d 15 = true) (h6 : d 16 = true) : ∃ q1 q2 C, v 13 = .pointer (some ⟨q1, 0, none⟩) ∧ v 14 = .pointer (some ⟨q2, 0, none⟩) ∧ W1.heap.size ≤ q1 ∧ W1.heap.size ≤ q2 ∧
    w.heap[q1]? = some (.cells L2 62 (0, 0)) ∧ w.heap[q2]? = some (.cells C 59 (0, 0)) ∧ IsRef w (.agg C) r2 G2 ∧ Below W1.heap.size W1 w := by
  obtain ⟨q1, a1, a2, a3⟩ := h.lg h3
  obtain ⟨q2, C, b1, b2, b3, b4, b5⟩ := h.dk h4
  rw [h5] at a3
  exact ⟨q1, q2, C, a1, b1, a2, b2, a3, b3, b5 h6, h.bel⟩
end
def PayW (p : List Int) (u : Value) (w : World) : Prop := ∃ A, u = .slice A p.length p.length ∧ Fg.Src w A p.length p.length (bv p)
def AppW (L : Array Value) (n e : Int) (d : Dk) (G : Nat → Prop) (u : Value) (w : World) : Prop := ∃ C, u = .tuple #[.agg L, .agg C, .int .u64 n, .int .i64 e] ∧ IsRef w (.agg C) d G
def DskW (d : Dk) (G : Nat → Prop) (u : Value) (w : World) : Prop := ∃ C, u = .agg C ∧ IsRef w (.agg C) d G
theorem payW_stand {p : List Int} {I : World → Prop} : ∀ (u : Value) (w w' : World), PayW p u w → I w → EApp w w' → PayW p u w' := fun u w w' ⟨A, h1, h2⟩ _ he => ⟨A, h1, EApp.src h2 he⟩
theorem appW_stand {L : Array Value} {n e : Int} {d : Dk} {G : Nat → Prop} {I : World → Prop} : ∀ (u : Value) (w w' : World), AppW L n e d G u w → I w → EApp w w' → AppW L n e d G u w' := fun u w w' ⟨C, h1, h2⟩ _ he => ⟨C, h1, EApp.ref h2 he⟩
theorem dskW_stand {d : Dk} {G : Nat → Prop} {I : World → Prop} : ∀ (u : Value) (w w' : World), DskW d G u w → I w → EApp w w' → DskW d G u w' := fun u w w' ⟨C, h1, h2⟩ _ he => ⟨C, h1, EApp.ref h2 he⟩
theorem scanF_small : ∀ (k : Nat) (l : Lg) (d : Dk), l.ok d.st.length → d.ok → Byt d → ∀ x ∈ (scanF k l d).1, Crc.Small x.pay
  | 0, l, d, _, _, _, x, hx => by simp [scanF] at hx
  | k + 1, l, d, hl, hd, hb, x, hx => by
    rw [scanF] at hx
    split at hx
    · simp at hx
    · split at hx
      · simp at hx
      · rename_i r l' hs
        obtain ⟨o1, o2, o3, -⟩ := step_ok (N := 0) hl hd hb hs
        rcases List.mem_cons.1 hx with rfl | hx
        · exact o3.small
        · exact scanF_small k l'.succ d ⟨o1.e0, o1.e1, by show 0 ≤ (l'.next + 1) % _; omega, by show (l'.next + 1) % _ < _; omega, o1.st, o1.sg, o1.t0, o1.t1⟩ hd hb x hx
end Go.Proofs.Ytogkibikghbghaa.Wal

namespace Go.Proofs.Ytogkibikghbghaa.Wal
open Go.RowKit Go.Proofs.Ytogkibikghbghaa.Fg Go.Proofs.Ytogkibikghbghaa.Frame Go.Proofs.Ytogkibikghbghaa.Disk Go.Proofs.Ytogkibikghbghaa.Area Go.ChangeShapes Go.WideShapes Go.ChangeAt

/-- The two words that the law begins with. -/
def QB (b4 : Nat) (e0 e1 : Int) (b : Nat) (o : Obj) : Prop := b = b4 ∧ o = .cells #[.int .u64 e0, .int .u64 e1] 55 (0, 0)
/-- .. and an act. -/
def QA (b4 : Nat) (e0 e1 : Int) (ab : Nat) (oa : Obj) (b : Nat) (o : Obj) : Prop := QB b4 e0 e1 b o ∨ (b = ab ∧ o = oa)
def RRel (W : World) (lb g wb mb b4 : Nat) (e0 e1 : Int) (N j : Nat) (w : World) : Prop := ∃ l d F C, KR W w lb g wb mb (QB b4 e0 e1) l l d d F C ∧ d.pd.length ≤ 12 * j ∧ d.st.length = N
def RSw (W : World) (lb g wb mb : Nat) (Q : Nat → Obj → Prop) (N j : Nat) (v s : Value) (w : World) : Prop := ∃ l d F C er, v = .int .i64 er ∧ s = .int .i64 er ∧ KR W w lb g wb mb Q l l d d F C ∧ d.pd.length ≤ 12 * j ∧ d.st.length = N
def REnd (W : World) (lb g wb mb b4 : Nat) (e0 e1 : Int) (N : Nat) (w : World) : Prop := ∃ l d F C, KR W w lb g wb mb (QB b4 e0 e1) l l d d F C ∧ d.st.length = N
theorem crash_st (d : Dk) (k : List Bool) : (d.crash k).st.length = d.st.length := Dk.length_settle _ _ _ _
theorem sync_pd0 (d : Dk) : d.sync.pd.length ≤ d.pd.length := by
  unfold Dk.sync
  split
  · simp
  · rw [Dk.act_pd]; exact Nat.le_refl _
theorem sync_st0 (d : Dk) : d.sync.st.length = d.st.length := by
  unfold Dk.sync
  split
  · exact Dk.length_settle _ _ _ _
  · rw [Dk.act_st]

set_option maxRecDepth 100000 in
set_option maxHeartbeats 8000000 in
theorem runs_law (n : Int) (hn : (Lit.int .i64 n).wf = true) (e0 e1 : Int) (he0 : 0 ≤ e0 ∧ e0 < 18446744073709551616) (he1 : 0 ≤ e1 ∧ e1 < 18446744073709551616) (A : Option Addr) (c : Nat) (l : List Act1) (W : World) (hlc : l.length ≤ c) (hcm : c ≤ maxLen) (hs : Acts W A l) :
    Calls Try.prog 7 #[.int .i64 n, .agg #[.int .u64 e0, .int .u64 e1], .slice A l.length c] W fun e w' => e = .returned (.bool true) ∧ Below W.heap.size W w' := by
  have hw : -9223372036854775808 ≤ n ∧ n ≤ 9223372036854775807 := by simpa [Lit.wf, IntKind.min, IntKind.max, IntKind.signed, IntKind.bits] using hn
  have HS := Lib.hid hs
  have hm := hcm
  unfold maxLen at hm
  have HB0 := Lib.hid ((Below.refl W.heap.size W).alloc (Nat.le_refl _) (.cells #[.int .u64 e0, .int .u64 e1] 55))
  have K0 := Lib.hid (heap_alloc_at W (.cells #[.int .u64 e0, .int .u64 e1] 55))
  have HE0 := Lib.hid he0
  clear hs hn hcm
  go_enter Try.func7, Try.ntmps7
  go_wp2_with fail
  generalize W.alloc (.cells #[.int .u64 e0, .int .u64 e1] 55) = wA at *
  refine (alive_any wA).mono ?_
  rintro e w0 ⟨rfl, hb0⟩
  have B0 : Hid (Below W.heap.size W w0) := Lib.hid (HB0.out.trans (hb0.mono HB0.out.size))
  have L0 := Lib.hid ((hb0.block _ (block_lt K0.out)).trans K0.out)
  clear hb0
  have q1 := cell_of_block L0.out 1
  by_cases h0 : 140 < n
  · go_wp2_with fail
    go_ret
    exact ⟨rfl, B0.out⟩
  by_cases h2 : (60 : Int) < l.length
  · go_wp2_with fail
    go_ret
    exact ⟨rfl, B0.out⟩
  by_cases h3 : (100 : Int) < e1
  · go_wp2_with fail
    go_ret
    exact ⟨rfl, B0.out⟩
  have HL : Hid (l.length ≤ 60) := Lib.hid (by omega)
  have c0 : decide ((140 : Int) < n) = false := decide_eq_false h0
  have c1 : decide ((60 : Int) < l.length) = false := decide_eq_false h2
  have c2 : decide ((100 : Int) < e1) = false := decide_eq_false h3
  go_wp2_with fail
  clear c0 c1 c2 q1
  have hnn : ∃ N : Nat, (N : Int) = if n < 0 then 0 else if 512 < n then 512 else n := by
    refine ⟨(if n < 0 then 0 else if 512 < n then 512 else n : Int).toNat, ?_⟩
    split
    · omega
    · split <;> omega
  obtain ⟨N, hN⟩ := hnn
  have HN := Lib.hid hN
  clear hN
  refine (new_any n N _ HN.out).mono ?_
  rintro e w1 ⟨g, F, rfl, hd, hb, hF⟩
  have DI := Lib.hid hd
  have HF := Lib.hid hF
  have B1 : Hid (Below W.heap.size W w1) := Lib.hid (B0.out.trans (hb.mono B0.out.size))
  have S1 := Lib.hid B0.out.size
  have L1 := Lib.hid ((hb.block _ (block_lt L0.out)).trans L0.out)
  clear hd hb hF
  go_wp2_with fail
  refine (refnew_any n N w1 HN.out (fun k => W.heap.size ≤ k ∧ ¬ F k)).mono ?_
  rintro e w2 ⟨v2, rfl, hr2, hb2⟩
  obtain ⟨C, rfl, hc1, hc2⟩ := hr2.form
  have U1 : Hid ((Try.prog.info? 59).map (·.size) = some C.size) := Lib.hid (by rw [hc1]; exact info_rd)
  have U2 : Hid ((#[.slice none 0 0, .slice none 0 0, .bool false, .int .i64 0, .bool false] : Array Value).size = C.size) := Lib.hid (by rw [hc1]; rfl)
  have U3 := Lib.hid hc2
  have X0 := Lib.hid (heap_alloc_at w2 (.cells #[.slice none 0 0, .slice none 0 0, .bool false, .int .i64 0, .bool false] 59))
  have X1 := Lib.hid (setRow_at C X0.out)
  have BX : Hid (Below w1.heap.size w1 ((w2.alloc (.cells #[.slice none 0 0, .slice none 0 0, .bool false, .int .i64 0, .bool false] 59)).setRow w2.heap.size C)) := Lib.hid (below_setRow (hb2.alloc hb2.size _) hb2.size C)
  have RX : Hid (IsRef ((w2.alloc (.cells #[.slice none 0 0, .slice none 0 0, .bool false, .int .i64 0, .bool false] 59)).setRow w2.heap.size C) (.agg C) (Dk.new N) (fun k => W.heap.size ≤ k ∧ ¬ F k)) := Lib.hid (((hr2.below (below_setRow ((Below.refl _ _).alloc (Nat.le_refl _) _) (Nat.le_refl _) _))).mono (fun k hlt hk => hk.elim id (fun hge => ⟨Nat.le_trans B1.out.size hge, fun hF => by have := DI.out.lt k hF; omega⟩)))
  have HC0 : Hid (∃ A1 c1, C[0]? = some (.slice A1 N c1)) := Lib.hid (by
    obtain ⟨A1, c1, A2, c2, lr, e, -⟩ := hr2
    injection e with e
    refine ⟨A1, c1, ?_⟩
    rw [e, rcells]
    simp [Dk.new])
  have SZ2 : Hid (w1.heap.size ≤ w2.heap.size) := Lib.hid hb2.size
  clear hc1 hc2 hr2 hb2
  go_upto_region 7 with (refine wpList_store_block rfl 59 (.tmp 8) (.tmp 51) rfl w2.heap.size C rfl rfl #[.slice none 0 0, .slice none 0 0, .bool false, .int .i64 0, .bool false] 59 X0.out U1.out U2.out U3.out ?_)
  generalize (w2.alloc (.cells #[.slice none 0 0, .slice none 0 0, .bool false, .int .i64 0, .bool false] 59)).setRow w2.heap.size C = w3 at *
  obtain ⟨wb, hwb⟩ : ∃ wb, w2.heap.size = wb := ⟨_, rfl⟩
  rw [hwb] at X1 SZ2 ⊢
  clear hwb X0
  have B3 : Hid (Below W.heap.size W w3) := Lib.hid (B1.out.trans (BX.out.mono B1.out.size))
  have L3 := Lib.hid ((BX.out.block _ (block_lt L1.out)).trans L1.out)
  have D3 := Lib.hid (DI.out.below BX.out)
  obtain ⟨seg, rfl⟩ : ∃ x, e1 = x + 1 := ⟨e1 - 1, by omega⟩
  have hsr : -1 ≤ seg ∧ seg ≤ 99 := by omega
  have W1 : IntKind.i64.wrap (seg + 1) = seg + 1 := by rw [IntKind.wrap_i64]; omega
  have W2 : IntKind.i64.wrap seg = seg := by rw [IntKind.wrap_i64]; omega
  have q0 := cell_of_block L3.out 0
  have q1 := cell_of_block L3.out 1
  have ST := Lib.hid (start_any D3.out (Byt.new N) 5 e0 seg (by decide) HE0.out)
  have HNL : Hid ((Dk.new N).st.length = N) := Lib.hid (by simp [Dk.new])
  go_wp2_with fail
  refine ST.out.mono ?_
  rintro e w4 ⟨A2, rfl, hb4, hnil, heq⟩
  have B4 : Hid (Below W.heap.size W w4) := Lib.hid (B3.out.trans (hb4.mono B3.out.size))
  have B34 := Lib.hid hb4
  have L4 := Lib.hid ((hb4.block _ (block_lt L3.out)).trans L3.out)
  have X4 := Lib.hid ((hb4.block _ (block_lt X1.out)).trans X1.out)
  have HNIL := Lib.hid hnil
  have HEQ := Lib.hid heq
  clear hb4 hnil heq q0 q1 W1 W2 ST
  obtain ⟨A1, c1, hc0⟩ := HC0.out
  have q0 := cell_of_block L4.out 0
  have x0 : w4.cell? ⟨wb, 0, none⟩ = some (.slice A1 N c1) := (cell_of_block X4.out 0).trans hc0
  have RS := Lib.hid (fun w' => refstart_any N 5 e0 seg w')
  rw [HNL.out] at HNIL HEQ ⊢
  clear hc0
  go_wp2_with fail
  refine (RS.out w4).mono ?_
  rintro e w5 ⟨rfl, hb5⟩
  have B5 : Hid (Below W.heap.size W w5) := Lib.hid (B4.out.trans (hb5.mono B4.out.size))
  have B35 : Hid (Below w3.heap.size w3 w5) := Lib.hid (B34.out.trans (hb5.mono B34.out.size))
  have B45 := Lib.hid hb5
  clear hb5 q0 x0 RS
  by_cases hE : startE N e0 seg = 0
  · obtain ⟨lb, rfl, hlb, hL⟩ := HEQ.out hE
    have HSE := Lib.hid hE
    rw [if_pos hE, hE]
    have hLS : LS W w5 lb g (Lg.new 5 e0 seg) (Dk.new N) F := ⟨hL.below B45.out, B5.out, fun k hk => Nat.le_trans S1.out (HF.out k hk), Nat.le_trans B3.out.size hlb⟩
    have hlb5 : lb < w5.heap.size := block_lt hLS.1.head
    have hFl : ∀ k, F k → k < w1.heap.size := DI.out.lt
    have s01 := BX.out.size
    have s35 := B35.out.size
    have KR0 : Hid (KR W (w5.alloc (.cells (rl (Lg.new 5 e0 seg)) 62)) lb g wb w5.heap.size (QB W.heap.size e0 (seg + 1)) (Lg.new 5 e0 seg) (Lg.new 5 e0 seg) (Dk.new N) (Dk.new N) F C) := Lib.hid (by
      have bb : Below w5.heap.size w5 (w5.alloc (.cells (rl (Lg.new 5 e0 seg)) 62)) := (Below.refl _ _).alloc (Nat.le_refl _) _
      have x1 := block_lt X1.out
      have z1 := SZ2.out
      refine ⟨hLS.below bb, (bb.block _ (block_lt ((B45.out.block _ (block_lt X4.out)).trans X4.out))).trans ((B45.out.block _ (block_lt X4.out)).trans X4.out), ((RX.out.mono (fun k hlt hk => ⟨hk.1, hk.2, by omega⟩)).below B35.out).below bb, heap_alloc_at w5 _, ⟨fun h => by have := hFl _ h; omega, by omega, by have := B1.out.size; omega⟩,
        ⟨fun h => by have := hFl _ h; omega, by omega, B5.out.size⟩, fun b o hq => ?_⟩
      obtain ⟨rfl, rfl⟩ := hq
      have l5 := (B45.out.block _ (block_lt L4.out)).trans L4.out
      have w0l := block_lt L0.out
      have l1l := block_lt L1.out
      have b3l := B3.out.size
      refine ⟨(bb.block _ (block_lt l5)).trans l5, fun h => by have := HF.out _ h; omega, ?_, ?_, ?_⟩
      · have := block_lt L3.out; omega
      · omega
      · have := block_lt l5; omega)
    clear hE hlb hL hLS hlb5 hFl s01 s35
    unfold rl at KR0 ⊢
    have ENV := Lib.hid (fun (w' : World) (hb : Below W.heap.size W w') => HS.out.below hb)
    go_upto_block 0 with fail
    have ew : w5.alloc (.cells #[.int .u32 (Lg.new 5 e0 seg).epoch, .int .u64 (Lg.new 5 e0 seg).next, .int .i64 (Lg.new 5 e0 seg).start, .int .i64 (Lg.new 5 e0 seg).seg, .int .i64 (Lg.new 5 e0 seg).taken] 62) = w5.alloc (.cells (rl (Lg.new 5 e0 seg)) 62) := rfl
    rw [ew] at KR0 ⊢
    clear ew
    obtain ⟨mb, hmb⟩ : ∃ x, w5.heap.size = x := ⟨_, rfl⟩
    rw [hmb] at KR0 ⊢
    clear hmb
    have START : Hid (RRel W lb g wb mb W.heap.size e0 (seg + 1) N 0 (w5.alloc (.cells (rl (Lg.new 5 e0 seg)) 62))) := Lib.hid ⟨_, _, _, _, KR0.out, by simp [Dk.new], HNL.out⟩
    go_cut [16] (fun v wx => REnd W lb g wb mb W.heap.size e0 (seg + 1) N wx)
    case first =>
      clear HB0 B0 B1 S1 DI HF U1 U2 U3 HC0 BX RX SZ2 X1 B3 D3 K0 L0 L1 L3 B4 B34 L4 X4 B5 B35 B45 HNIL HEQ KR0
      go_wp2_with fail
      go_loopg [88] l.length (fun k i wr => ∃ j : Nat, j + k = l.length ∧ i = .int .i64 j ∧ RRel W lb g wb mb W.heap.size e0 (seg + 1) N j wr)
      case atStart => exact ⟨0, Nat.zero_add _, rfl, START.out⟩
      case round =>
        obtain ⟨j, hj, rfl, lg, d3, F3, C3, hkr, hpd, hst⟩ := hrel
        have M3 := Lib.hid hkr
        have PD := Lib.hid hpd
        have HST := Lib.hid hst
        clear hkr hpd hst START
        by_cases hlt : j < l.length
        · obtain ⟨⟨ki, at0, by0, ke⟩, ha⟩ : ∃ a, l[j]? = some a := ⟨_, List.getElem?_eq_getElem hlt⟩
          obtain ⟨b, o, A', c', rfl, hrg0, hsk, hbl, hat⟩ := HS.out.each j _ ha
          simp only at hrg0 hat hsk
          have hrg : wr.rangeAt b (o + j * 4) [.int .i64 ki, .int .i64 at0, .int .u8 by0, .slice A' ke.length c'] := fun i v hv => (M3.out.ls.2.1.cell (p := ⟨b, o + j * 4 + i, none⟩) hbl).trans (hrg0 i v hv)
          have HRG := Lib.hid hrg
          have HAT := Lib.hid hat
          have SK : Hid (∀ w', Below W.heap.size W w' → Fg.Src w' A' ke.length c' (blv ke)) := Lib.hid (fun w' hb => hsk.same fun ad had hne => hb.block _ (hsk.lt had hne))
          have SKL : Hid (∀ ad, A' = some ad → ke ≠ [] → ad.block < W.heap.size) := Lib.hid (fun ad had hne => hsk.lt had (by intro e; exact hne (by simpa [blv] using e)))
          have SKC : Hid (ke.length ≤ c' ∧ c' ≤ maxLen) := Lib.hid ⟨hsk.cap, hsk.most⟩
          have Y1 : Hid ((Try.prog.info? 45).map (·.size) = some ([.int .i64 ki, .int .i64 at0, .int .u8 by0, .slice A' ke.length c'] : List Value).length) := Lib.hid (by kernel_rfl)
          have HAB := Lib.hid (heap_alloc_at wr (Obj.cells #[.int .i64 ki, .int .i64 at0, .int .u8 by0, .slice A' ke.length c'] 45))
          have FR := M3.out.fresh
          have M4 : Hid (KR W (wr.alloc (Obj.cells #[.int .i64 ki, .int .i64 at0, .int .u8 by0, .slice A' ke.length c'] 45)) lb g wb mb (QA W.heap.size e0 (seg + 1) wr.heap.size (Obj.cells #[.int .i64 ki, .int .i64 at0, .int .u8 by0, .slice A' ke.length c'] 45)) lg lg d3 d3 F3 C3) := Lib.hid
            ((M3.out.step ((Below.refl _ _).alloc (Nat.le_refl _) _)).also (fun b o hq => hq.elim .inl (fun he => .inr (by obtain ⟨rfl, rfl⟩ := he; exact ⟨HAB.out, FR⟩))))
          clear ha hrg hsk hat hrg0 FR
          go_upto_block 2 with (refine wpList_load_mid rfl 45 (.tmp 90) rfl b (o + j * 4) rfl [.int .i64 ki, .int .i64 at0, .int .u8 by0, .slice A' ke.length c'] _ HRG.out Try.underlying45 rfl Y1.out ?_)
          obtain ⟨oa, hoa⟩ : ∃ x, Obj.cells #[.int .i64 ki, .int .i64 at0, .int .u8 by0, .slice A' ke.length c'] 45 = x := ⟨_, rfl⟩
          generalize wr.alloc (Obj.cells #[.int .i64 ki, .int .i64 at0, .int .u8 by0, .slice A' ke.length c'] 45) = w4 at *
          generalize wr.heap.size = ab at *
          clear hoa
          have m0 := cell_of_block (M4.out.st ab _ (.inr ⟨rfl, rfl⟩)).1 0
          have m1 := cell_of_block (M4.out.st ab _ (.inr ⟨rfl, rfl⟩)).1 1
          have m2 := cell_of_block (M4.out.st ab _ (.inr ⟨rfl, rfl⟩)).1 2
          have LOK : Hid (lg.ok d3.st.length) := Lib.hid M3.out.ls.1.ok
          have PDB : Hid (d3.pd.length + 12 < 1000000) := Lib.hid (by have := PD.out; have := HL.out; omega)
          clear HRG Y1 HAB M3
          go_cut [16, 17] (fun v s wx => RSw W lb g wb mb (QA W.heap.size e0 (seg + 1) ab (Obj.cells #[.int .i64 ki, .int .i64 at0, .int .u8 by0, .slice A' ke.length c'] 45)) N (j + 1) v s wx)
          case first =>
            by_cases h0 : ki = 0
            · subst h0
              as_aux_lemma =>
                clear ENV
                have PLN : Hid ((payL at0 by0).length ≤ 100000) := Lib.hid (by have := payN_le at0; rw [payL_length]; omega)
                go_wp2_with fail
                refine (payload_new at0 by0 w4).mono ?_
                rintro e w6 ⟨A6, rfl, hs6, hb6, -⟩
                have M6 := Lib.hid (M4.out.step hb6)
                have AP := Lib.hid (append_any M6.out.ls.1 _ (payL_small at0 by0) PLN.out A6 _ hs6 PDB.out)
                clear hs6 hb6 m0 m1 m2 M4
                go_wp2_with fail
                refine AP.out.mono ?_
                intro e w7 h7
                obtain ⟨rfl, F7, h71⟩ := M6.out.app h7
                have M7 := Lib.hid h71
                clear h7 h71 AP M6
                go_upto_region 22 with fail
                apply wp_region_words4 (EApp) (IApp w7 (rl (lg.appL d3 (payL at0 by0))) (lg.appD d3 (payL at0 by0)) (fun k => (W.heap.size ≤ k ∧ ¬ F7 k ∧ k ≠ lb) ∨ w7.heap.size ≤ k))
                  [isVal (.agg (rl lg)), isVal (.agg C3), isVal _, isVal (.int .i64 at0), isVal _, isVal (.int .u8 by0), PayW (payL at0 by0), AppW (rl (lg.appL d3 (payL at0 by0))) (lg.appN d3 (payL at0 by0)) (lg.appE d3 (payL at0 by0)) (lg.appD d3 (payL at0 by0)) (fun k => (W.heap.size ≤ k ∧ ¬ F7 k ∧ k ≠ lb) ∨ w7.heap.size ≤ k), AppW (rl (lg.appL d3 (payL at0 by0))) (lg.appN d3 (payL at0 by0)) (lg.appE d3 (payL at0 by0)) (lg.appD d3 (payL at0 by0)) (fun k => (W.heap.size ≤ k ∧ ¬ F7 k ∧ k ≠ lb) ∨ w7.heap.size ≤ k), isVal (.agg (rl (lg.appL d3 (payL at0 by0)))), DskW (lg.appD d3 (payL at0 by0)) (fun k => (W.heap.size ≤ k ∧ ¬ F7 k ∧ k ≠ lb) ∨ w7.heap.size ≤ k), isVal (.int .u64 (lg.appN d3 (payL at0 by0))), isVal (.int .i64 (lg.appE d3 (payL at0 by0))), fun _ _ => True, fun _ _ => True, fun _ _ => True, fun _ _ => True, isVal _, isVal _]
                  [[], [], [], [2], [], [4], [3, 5], [0, 1, 6], [7], [8], [8], [8], [8], [], [], [9, 13], [10, 14], [11], [12]] [0, 1, 2, 3, 4, 5, 6, 7, 8, 9, 10, 11, 12, 13, 14, 15, 16, 17, 18] (by kernel_rfl) (by kernel_rfl) ?hFp ?standp ?hIp ?stepsp ?finp
                case hFp => intro v; simp [fillFrom, Act.put]; rfl
                case standp =>
                  repeat' (first | exact trivial | (refine And.intro ?_ ?_))
                  all_goals first | exact payW_stand | exact appW_stand | exact dskW_stand | exact (fun _ _ _ _ _ _ => trivial) | (intro u w w' h _ _; exact h)
                case hIp => exact fun v => IApp.start v
                case stepsp =>
                  refine And.intro ?_ ?_
                  · intro d v w' hdk hI hdn hd K hK
                    simp only [allOf, word, List.getD_cons_zero, List.getD_cons_succ, isVal, and_true, true_and] at hd
                    have HK := Lib.hid hK
                    clear hK
                    rw [if_pos (by rfl)]
                    have hgw := (hI.bel.block _ (block_lt M7.out.hmb)).trans M7.out.hmb
                    refine wp_load_block 62 (.tmp 12) rfl mb rfl (rl lg) 62 (0, 0) hgw _ Try.underlying62 rfl rlInfo ?_
                    exact HK.out _ _ rfl (hI.step (by decide) (by decide) (by decide) (by decide) (Below.refl _ _) _) (EApp.below (Below.refl _ _))
                  refine And.intro ?_ ?_
                  · intro d v w' hdk hI hdn hd K hK
                    simp only [allOf, word, List.getD_cons_zero, List.getD_cons_succ, isVal, and_true, true_and] at hd
                    have HK := Lib.hid hK
                    clear hK
                    rw [if_pos (by rfl)]
                    have hgw := (hI.bel.block _ (block_lt M7.out.hwb)).trans M7.out.hwb
                    refine wp_load_block 59 (.tmp 8) rfl wb rfl C3 59 (0, 0) hgw _ Try.underlying59 rfl M7.out.refwb.2.2 ?_
                    exact HK.out _ _ rfl (hI.step (by decide) (by decide) (by decide) (by decide) (Below.refl _ _) _) (EApp.below (Below.refl _ _))
                  refine And.intro ?_ ?_
                  · intro d v w' hdk hI hdn hd K hK
                    simp only [allOf, word, List.getD_cons_zero, List.getD_cons_succ, isVal, and_true, true_and] at hd
                    have HK := Lib.hid hK
                    clear hK
                    go_simp
                    exact HK.out _ _ rfl (hI.step (by decide) (by decide) (by decide) (by decide) (Below.refl _ _) _) ((EApp.below (Below.refl _ _)))
                  refine And.intro ?_ ?_
                  · intro d v w' hdk hI hdn hd K hK
                    simp only [allOf, word, List.getD_cons_zero, List.getD_cons_succ, isVal, and_true, true_and] at hd
                    simp only [hd] at hK
                    have cc := cell_of_block ((hI.bel.block _ (block_lt (M7.out.st ab _ (.inr ⟨rfl, rfl⟩)).1)).trans (M7.out.st ab _ (.inr ⟨rfl, rfl⟩)).1) 1
                    have HK := Lib.hid hK
                    clear hK
                    go_simp
                    exact HK.out _ _ rfl (hI.step (by decide) (by decide) (by decide) (by decide) (Below.refl _ _) _) ((EApp.below (Below.refl _ _)))
                  refine And.intro ?_ ?_
                  · intro d v w' hdk hI hdn hd K hK
                    simp only [allOf, word, List.getD_cons_zero, List.getD_cons_succ, isVal, and_true, true_and] at hd
                    have HK := Lib.hid hK
                    clear hK
                    go_simp
                    exact HK.out _ _ rfl (hI.step (by decide) (by decide) (by decide) (by decide) (Below.refl _ _) _) ((EApp.below (Below.refl _ _)))
                  refine And.intro ?_ ?_
                  · intro d v w' hdk hI hdn hd K hK
                    simp only [allOf, word, List.getD_cons_zero, List.getD_cons_succ, isVal, and_true, true_and] at hd
                    simp only [hd] at hK
                    have cc := cell_of_block ((hI.bel.block _ (block_lt (M7.out.st ab _ (.inr ⟨rfl, rfl⟩)).1)).trans (M7.out.st ab _ (.inr ⟨rfl, rfl⟩)).1) 2
                    have HK := Lib.hid hK
                    clear hK
                    go_simp
                    exact HK.out _ _ rfl (hI.step (by decide) (by decide) (by decide) (by decide) (Below.refl _ _) _) ((EApp.below (Below.refl _ _)))
                  refine And.intro ?_ ?_
                  · intro d v w' hdk hI hdn hd K hK
                    simp only [allOf, word, List.getD_cons_zero, List.getD_cons_succ, isVal, and_true, true_and] at hd
                    obtain ⟨h3, h5⟩ := hd
                    simp only [h3, h5] at hK
                    have HK := Lib.hid hK
                    clear hK
                    go_simp
                    refine (payload_new at0 by0 w').mono ?_
                    rintro e w5 ⟨A9, rfl, hs9, hb9, -⟩
                    exact HK.out _ _ ⟨A9, rfl, hs9⟩ (hI.step (by decide) (by decide) (by decide) (by decide) hb9 _) (EApp.below hb9)
                  refine And.intro ?_ ?_
                  · intro d v w' hdk hI hdn hd K hK
                    simp only [allOf, word, List.getD_cons_zero, List.getD_cons_succ, isVal, and_true, true_and] at hd
                    obtain ⟨h0, h1, A9, h6, s9⟩ := hd
                    simp only [h0, h1, h6] at hK
                    have HK := Lib.hid hK
                    clear hK
                    go_simp
                    refine (refappend_any (M7.out.ref.below hI.bel) lg LOK.out (payL at0 by0) (payL_small at0 by0) PLN.out A9 _ s9 PDB.out).mono ?_
                    rintro e w5 ⟨v5, rfl, hr5, hb5⟩
                    obtain ⟨C5, rfl, -, -⟩ := hr5.form
                    exact HK.out _ _ ⟨C5, rfl, hr5.mono (fun k _ hk => hk.imp id (Nat.le_trans hI.bel.size))⟩ (hI.step (by decide) (by decide) (by decide) (by decide) hb5 _) (EApp.below hb5)
                  refine And.intro ?_ ?_
                  · intro d v w' hdk hI hdn hd K hK
                    simp only [allOf, word, List.getD_cons_zero, List.getD_cons_succ, isVal, and_true, true_and] at hd
                    obtain ⟨C5, h7, r5⟩ := hd
                    simp only [h7] at hK
                    have HK := Lib.hid hK
                    clear hK
                    go_simp
                    exact HK.out _ _ ⟨C5, rfl, r5⟩ (hI.step (by decide) (by decide) (by decide) (by decide) (Below.refl _ _) _) (EApp.below (Below.refl _ _))
                  refine And.intro ?_ ?_
                  · intro d v w' hdk hI hdn hd K hK
                    simp only [allOf, word, List.getD_cons_zero, List.getD_cons_succ, isVal, and_true, true_and] at hd
                    obtain ⟨C5, h8, r5⟩ := hd
                    simp only [h8] at hK
                    have HK := Lib.hid hK
                    clear hK
                    go_simp
                    exact HK.out _ _ rfl (hI.step (by decide) (by decide) (by decide) (by decide) (Below.refl _ _) _) ((EApp.below (Below.refl _ _)))
                  refine And.intro ?_ ?_
                  · intro d v w' hdk hI hdn hd K hK
                    simp only [allOf, word, List.getD_cons_zero, List.getD_cons_succ, isVal, and_true, true_and] at hd
                    obtain ⟨C5, h8, r5⟩ := hd
                    simp only [h8] at hK
                    have HK := Lib.hid hK
                    clear hK
                    go_simp
                    exact HK.out _ _ ⟨C5, rfl, r5⟩ (hI.step (by decide) (by decide) (by decide) (by decide) (Below.refl _ _) _) (EApp.below (Below.refl _ _))
                  refine And.intro ?_ ?_
                  · intro d v w' hdk hI hdn hd K hK
                    simp only [allOf, word, List.getD_cons_zero, List.getD_cons_succ, isVal, and_true, true_and] at hd
                    obtain ⟨C5, h8, r5⟩ := hd
                    simp only [h8] at hK
                    have HK := Lib.hid hK
                    clear hK
                    go_simp
                    exact HK.out _ _ rfl (hI.step (by decide) (by decide) (by decide) (by decide) (Below.refl _ _) _) ((EApp.below (Below.refl _ _)))
                  refine And.intro ?_ ?_
                  · intro d v w' hdk hI hdn hd K hK
                    simp only [allOf, word, List.getD_cons_zero, List.getD_cons_succ, isVal, and_true, true_and] at hd
                    obtain ⟨C5, h8, r5⟩ := hd
                    simp only [h8] at hK
                    have HK := Lib.hid hK
                    clear hK
                    go_simp
                    exact HK.out _ _ rfl (hI.step (by decide) (by decide) (by decide) (by decide) (Below.refl _ _) _) ((EApp.below (Below.refl _ _)))
                  refine And.intro ?_ ?_
                  · intro d v w' hdk hI hdn hd K hK
                    simp only [allOf, word, List.getD_cons_zero, List.getD_cons_succ, isVal, and_true, true_and] at hd
                    have HK := Lib.hid hK
                    clear hK
                    go_simp
                    exact HK.out _ _ trivial (hI.did13 hdk) (EApp.below ((Below.refl _ _).alloc (Nat.le_refl _) _))
                  refine And.intro ?_ ?_
                  · intro d v w' hdk hI hdn hd K hK
                    simp only [allOf, word, List.getD_cons_zero, List.getD_cons_succ, isVal, and_true, true_and] at hd
                    have HK := Lib.hid hK
                    clear hK
                    go_simp
                    exact HK.out _ _ trivial (hI.did14 hdk) (EApp.below ((Below.refl _ _).alloc (Nat.le_refl _) _))
                  refine And.intro ?_ ?_
                  · intro d v w' hdk hI hdn hd K hK
                    simp only [allOf, word, List.getD_cons_zero, List.getD_cons_succ, isVal, and_true, true_and] at hd
                    have HK := Lib.hid hK
                    clear hK
                    rw [if_pos (by rfl)]
                    simp only [allTrue, List.getD_cons_zero, List.getD_cons_succ] at hdn
                    obtain ⟨q, hv, hq, hw⟩ := hI.at15 hdn.2.1 hdk
                    refine wp_store_block 62 (.tmp 21) (.tmp 116) rfl q (rl (lg.appL d3 (payL at0 by0))) hv hd zL 62 hw rlInfo rfl (by simp [rl, Value.oneCell']) ?_
                    exact HK.out _ _ trivial (hI.did15 hdn.2.1 hv hq hw _) (EApp.set hw (.inl rfl) zL_no)
                  refine And.intro ?_ ?_
                  · intro d v w' hdk hI hdn hd K hK
                    simp only [allOf, word, List.getD_cons_zero, List.getD_cons_succ, isVal, and_true, true_and] at hd
                    obtain ⟨C5, h10, r5⟩ := hd
                    obtain ⟨C6, e6, g1, g2⟩ := r5.form
                    injection e6 with e6
                    subst e6
                    have HK := Lib.hid hK
                    clear hK
                    rw [if_pos (by rfl)]
                    simp only [allTrue, List.getD_cons_zero, List.getD_cons_succ] at hdn
                    obtain ⟨q, hv, hq, hw⟩ := hI.at16 hdn.2.1 hdk
                    refine wp_store_block 59 (.tmp 22) (.tmp 117) rfl q C5 hv h10 zD 59 hw (by rw [g1]; exact info_rd) (by rw [g1]; rfl) g2 ?_
                    exact HK.out _ _ trivial (hI.did16 hdn.2.1 hv hq hw r5 _) (EApp.set hw (.inr rfl) zD_no)
                  refine And.intro ?_ ?_
                  · intro d v w' hdk hI hdn hd K hK
                    simp only [allOf, word, List.getD_cons_zero, List.getD_cons_succ, isVal, and_true, true_and] at hd
                    try simp only [hd] at hK
                    have HK := Lib.hid hK
                    clear hK
                    go_simp
                    exact HK.out _ _ rfl (hI.step (by decide) (by decide) (by decide) (by decide) (Below.refl _ _) _) ((EApp.below (Below.refl _ _)))
                  refine And.intro ?_ ?_
                  · intro d v w' hdk hI hdn hd K hK
                    simp only [allOf, word, List.getD_cons_zero, List.getD_cons_succ, isVal, and_true, true_and] at hd
                    try simp only [hd] at hK
                    have HK := Lib.hid hK
                    clear hK
                    go_simp
                    exact HK.out _ _ rfl (hI.step (by decide) (by decide) (by decide) (by decide) (Below.refl _ _) _) ((EApp.below (Below.refl _ _)))
                  exact trivial
                intro v w9 dn hall hI hd
                simp only [allOf, word, List.getD_cons_zero, List.getD_cons_succ, isVal, and_true, true_and] at hd
                obtain ⟨h0, h1, h2, h3, h4, h5, ⟨A6w, h6, -⟩, ⟨C7w, h7, -⟩, ⟨C8w, h8, -⟩, h9, ⟨C10w, h10, -⟩, h11, h12, h17, h18⟩ := hd
                simp only [h0, h1, h2, h3, h4, h5, h6, h7, h8, h9, h10, h11, h12, h17, h18]
                clear h0 h1 h2 h3 h4 h5 h6 h7 h8 h9 h10 h11 h12 h17 h18
                obtain ⟨q1, q2, C9, h13, h14, hq1, hq2, hL2, hC9, hr9, hb9⟩ := hI.fin (hall 13 (by decide)) (hall 14 (by decide)) (hall 15 (by decide)) (hall 16 (by decide))
                simp only [h13, h14]
                clear hI hall h13 h14
                have M9 := Lib.hid (M7.out.step hb9)
                have R9 : Hid (IsRef w9 (.agg C9) (lg.appD d3 (payL at0 by0)) (fun k => W.heap.size ≤ k ∧ ¬ F7 k ∧ k ≠ lb)) := Lib.hid (hr9.mono (fun k _ hk => hk.elim id (fun hge => ⟨Nat.le_trans M7.out.ls.2.1.size hge, fun hf => by have := M7.out.ls.1.disk.lt _ hf; omega, fun e => by have := block_lt M7.out.ls.1.head; omega⟩)))
                have N1 : Hid (q1 ≠ mb ∧ q2 ≠ mb) := Lib.hid (by have := block_lt M7.out.hmb; exact ⟨by omega, by omega⟩)
                have HL2 := Lib.hid hL2
                have HC9 := Lib.hid hC9
                have U9 : Hid ((Try.prog.info? 59).map (·.size) = some C9.size ∧ C3.size = C9.size ∧ C9.all (·.oneCell') = true) := Lib.hid (by
                  obtain ⟨C6, e6, g1, g2⟩ := hr9.form
                  injection e6 with e6
                  subst e6
                  exact ⟨by rw [g1]; exact info_rd, by rw [g1, M7.out.refwb.1], g2⟩)
                have M10 := Lib.hid (M9.out.setM (lg.appL d3 (payL at0 by0)))
                have R10 : Hid (IsRef (w9.setRow mb (rl (lg.appL d3 (payL at0 by0)))) (.agg C9) (lg.appD d3 (payL at0 by0)) (fun k => W.heap.size ≤ k ∧ ¬ F7 k ∧ k ≠ lb)) := Lib.hid (R9.out.boxed M9.out.hmb (by decide) (by decide) (fun k _ hk => setRow_other _ _ _ _ hk))
                have HC10 : Hid ((w9.setRow mb (rl (lg.appL d3 (payL at0 by0)))).heap[q2]? = some (.cells C9 59 (0, 0))) := Lib.hid ((setRow_other _ _ _ _ N1.out.2).trans hC9)
                have M11 := Lib.hid (M10.out.setD R10.out)
                clear hq1 hq2 hL2 hC9 hr9 hb9 M7
                go_upto_region 24 with (first
                  | refine wpList_load_block rfl 62 (.tmp 21) rfl q1 rfl (rl (lg.appL d3 (payL at0 by0))) 62 (0, 0) HL2.out _ Try.underlying62 rfl rlInfo ?_
                  | refine wpList_store_block rfl 62 (.tmp 12) (.tmp 120) rfl mb (rl (lg.appL d3 (payL at0 by0))) rfl rfl (rl lg) 62 M9.out.hmb rlInfo rfl (by simp [rl, Value.oneCell']) ?_)
                go_upto_region 25 with (first
                  | refine wpList_load_block rfl 59 (.tmp 22) rfl q2 rfl C9 59 (0, 0) HC10.out _ Try.underlying59 rfl U9.out.1 ?_
                  | refine wpList_store_block rfl 59 (.tmp 8) (.tmp 121) rfl wb C9 rfl rfl C3 59 M10.out.hwb U9.out.1 U9.out.2.1 U9.out.2.2 ?_)
                generalize (w9.setRow mb (rl (lg.appL d3 (payL at0 by0)))).setRow wb C9 = w11 at *
                go_wp2_with fail
                go_meet
                exact ⟨_, _, F7, C9, (lg.appE d3 (payL at0 by0)), rfl, rfl, M11.out, by have := app_pd12 lg d3 (payL at0 by0); have := PD.out; omega, by rw [appD_st]; exact HST.out⟩
            · have k0 : (ki == 0) = false := beq_eq_false_iff_ne.2 h0
              by_cases h1 : ki = 1
              · subst h1
                clear h0 ENV
                as_aux_lemma =>
                  have SY := Lib.hid (lsync_any M4.out.ls.1)
                  go_wp2_with fail
                  refine SY.out.mono ?_
                  rintro e w5 ⟨rfl, ht⟩
                  obtain ⟨F5, h5⟩ := M4.out.turn ht (sync_st0 d3) M4.out.ls.1.byt.sync
                  have M5 := Lib.hid h5
                  clear ht h5 SY m0 m1 m2
                  go_wp2_with (refine wpList_load_block rfl 59 (.tmp 8) rfl wb rfl C3 59 (0, 0) M5.out.hwb _ Try.underlying59 rfl M5.out.refwb.2.2 ?_)
                  refine (refsync_any M5.out.ref).mono ?_
                  rintro e w6 ⟨v6, rfl, hr6, hb6⟩
                  obtain ⟨C6, rfl, hc1, hc2⟩ := hr6.form
                  have V1 : Hid ((Try.prog.info? 59).map (·.size) = some C6.size) := Lib.hid (by rw [hc1]; exact info_rd)
                  have V2 : Hid (C3.size = C6.size) := Lib.hid (by rw [hc1, M5.out.refwb.1])
                  have V3 := Lib.hid hc2
                  have Q6 := Lib.hid ((hb6.block _ (block_lt M5.out.hwb)).trans M5.out.hwb)
                  have M6 := Lib.hid (M5.out.newD hb6 hr6)
                  clear hr6 hb6 hc1 hc2
                  go_wp2_with (refine wpList_store_block rfl 59 (.tmp 8) (.tmp 134) rfl wb C6 rfl rfl C3 59 Q6.out V1.out V2.out V3.out ?_)
                  go_meet
                  exact ⟨_, _, F5, C6, d3.actE, rfl, rfl, M6.out, by have := sync_pd0 d3; have := PD.out; omega, (sync_st0 d3).trans HST.out⟩
              · have k1 : (ki == 1) = false := beq_eq_false_iff_ne.2 h1
                by_cases h2 : ki = 2
                · subst h2
                  clear h0 h1 ENV
                  as_aux_lemma =>
                    have x0 : ∃ A9 c9, C3[0]? = some (.slice A9 d3.st.length c9) := by
                      obtain ⟨A1, c1, A2, c2, lr, e, -⟩ := M4.out.ref
                      injection e with e
                      exact ⟨A1, c1, by rw [e]; rfl⟩
                    obtain ⟨A9, c9, x0⟩ := x0
                    have X0 := Lib.hid x0
                    clear x0 m0 m1 m2
                    go_upto_region 33 with fail
                    apply wp_region_words2 (fun w w' => Below w.heap.size w w') (fun _ w' => Below w4.heap.size w4 w')
                      [isVal _, isVal _, isVal (.int .i64 at0), isVal (.bool (lg.placeOk d3.st.length (secs at0))), isVal (.agg (rl lg)), isVal _, isVal (.slice A9 d3.st.length c9), isVal _, isVal _, isVal (.int .i64 at0), isVal (.bool (lg.placeOk d3.st.length (secs at0))), isVal _]
                      [[], [], [1], [0, 2], [], [], [5], [6], [], [8], [4, 7, 9], [3, 10]] [0, 1, 2, 3, 4, 5, 6, 7, 8, 9, 10, 11] (by kernel_rfl) (by kernel_rfl) ?hFr ?standr ?hIr ?stepsr ?finr
                    case hFr => intro v; simp [fillFrom, Act.put]; rfl
                    case standr =>
                      repeat' (first | exact trivial | (refine And.intro ?_ ?_))
                      all_goals first | (intro u w w' h _ _; exact h)
                    case hIr => exact below_dr (Below.refl _ _)
                    case stepsr =>
                      refine And.intro ?_ ?_
                      · intro d v w' hdk hI hdn hd K hK
                        simp only [allOf, word, List.getD_cons_zero, List.getD_cons_succ, isVal, and_true, true_and] at hd
                        have HK := Lib.hid hK
                        clear hK
                        go_simp
                        exact HK.out _ _ rfl hI (Below.refl _ _)
                      refine And.intro ?_ ?_
                      · intro d v w' hdk hI hdn hd K hK
                        simp only [allOf, word, List.getD_cons_zero, List.getD_cons_succ, isVal, and_true, true_and] at hd
                        have HK := Lib.hid hK
                        clear hK
                        go_simp
                        exact HK.out _ _ rfl hI (Below.refl _ _)
                      refine And.intro ?_ ?_
                      · intro d v w' hdk hI hdn hd K hK
                        simp only [allOf, word, List.getD_cons_zero, List.getD_cons_succ, isVal, and_true, true_and] at hd
                        simp only [hd] at hK
                        have cc := cell_of_block ((hI.block _ (block_lt (M4.out.st ab _ (.inr ⟨rfl, rfl⟩)).1)).trans (M4.out.st ab _ (.inr ⟨rfl, rfl⟩)).1) 1
                        have HK := Lib.hid hK
                        clear hK
                        go_simp
                        exact HK.out _ _ rfl hI (Below.refl _ _)
                      refine And.intro ?_ ?_
                      · intro d v w' hdk hI hdn hd K hK
                        simp only [allOf, word, List.getD_cons_zero, List.getD_cons_succ, isVal, and_true, true_and] at hd
                        try simp only [hd] at hK
                        have HK := Lib.hid hK
                        clear hK
                        go_simp
                        refine (room_any (M4.out.ls.1.below hI) at0 HAT.out.1).mono ?_
                        rintro e w5 ⟨rfl, hb5⟩
                        exact HK.out _ _ rfl (hI.trans (hb5.mono hI.size)) hb5
                      refine And.intro ?_ ?_
                      · intro d v w' hdk hI hdn hd K hK
                        simp only [allOf, word, List.getD_cons_zero, List.getD_cons_succ, isVal, and_true, true_and] at hd
                        have HK := Lib.hid hK
                        clear hK
                        rw [if_pos (by rfl)]
                        have hgw := (hI.block _ (block_lt M4.out.hmb)).trans M4.out.hmb
                        refine wp_load_block 62 (.tmp 12) rfl mb rfl (rl lg) 62 (0, 0) hgw _ Try.underlying62 rfl rlInfo ?_
                        exact HK.out _ _ rfl hI (Below.refl _ _)
                      refine And.intro ?_ ?_
                      · intro d v w' hdk hI hdn hd K hK
                        simp only [allOf, word, List.getD_cons_zero, List.getD_cons_succ, isVal, and_true, true_and] at hd
                        have HK := Lib.hid hK
                        clear hK
                        go_simp
                        exact HK.out _ _ rfl hI (Below.refl _ _)
                      refine And.intro ?_ ?_
                      · intro d v w' hdk hI hdn hd K hK
                        simp only [allOf, word, List.getD_cons_zero, List.getD_cons_succ, isVal, and_true, true_and] at hd
                        simp only [hd] at hK
                        have cc : w'.cell? ⟨wb, 0, none⟩ = some (.slice A9 d3.st.length c9) := (cell_of_block ((hI.block _ (block_lt M4.out.hwb)).trans M4.out.hwb) 0).trans X0.out
                        have HK := Lib.hid hK
                        clear hK
                        go_simp
                        exact HK.out _ _ rfl hI (Below.refl _ _)
                      refine And.intro ?_ ?_
                      · intro d v w' hdk hI hdn hd K hK
                        simp only [allOf, word, List.getD_cons_zero, List.getD_cons_succ, isVal, and_true, true_and] at hd
                        try simp only [hd] at hK
                        have HK := Lib.hid hK
                        clear hK
                        go_simp
                        exact HK.out _ _ rfl hI (Below.refl _ _)
                      refine And.intro ?_ ?_
                      · intro d v w' hdk hI hdn hd K hK
                        simp only [allOf, word, List.getD_cons_zero, List.getD_cons_succ, isVal, and_true, true_and] at hd
                        have HK := Lib.hid hK
                        clear hK
                        go_simp
                        exact HK.out _ _ rfl hI (Below.refl _ _)
                      refine And.intro ?_ ?_
                      · intro d v w' hdk hI hdn hd K hK
                        simp only [allOf, word, List.getD_cons_zero, List.getD_cons_succ, isVal, and_true, true_and] at hd
                        simp only [hd] at hK
                        have cc := cell_of_block ((hI.block _ (block_lt (M4.out.st ab _ (.inr ⟨rfl, rfl⟩)).1)).trans (M4.out.st ab _ (.inr ⟨rfl, rfl⟩)).1) 1
                        have HK := Lib.hid hK
                        clear hK
                        go_simp
                        exact HK.out _ _ rfl hI (Below.refl _ _)
                      refine And.intro ?_ ?_
                      · intro d v w' hdk hI hdn hd K hK
                        simp only [allOf, word, List.getD_cons_zero, List.getD_cons_succ, isVal, and_true, true_and] at hd
                        try simp only [hd] at hK
                        have HK := Lib.hid hK
                        clear hK
                        go_simp
                        refine (refroom_any lg d3.st.length LOK.out at0 HAT.out.1 w').mono ?_
                        rintro e w5 ⟨rfl, hb5⟩
                        exact HK.out _ _ rfl (hI.trans (hb5.mono hI.size)) hb5
                      refine And.intro ?_ ?_
                      · intro d v w' hdk hI hdn hd K hK
                        simp only [allOf, word, List.getD_cons_zero, List.getD_cons_succ, isVal, and_true, true_and] at hd
                        try simp only [hd] at hK
                        have HK := Lib.hid hK
                        clear hK
                        go_simp
                        exact HK.out _ _ rfl hI (Below.refl _ _)
                      exact trivial
                    intro v w5 dn hall hI hd
                    simp only [allOf, word, List.getD_cons_zero, List.getD_cons_succ, isVal, and_true, true_and] at hd
                    obtain ⟨h0, h1, h2, h3, h4, h5, h6, h7, h8, h9, h10, h11⟩ := hd
                    simp only [h0, h1, h2, h3, h4, h5, h6, h7, h8, h9, h10, h11]
                    clear h0 h1 h2 h3 h4 h5 h6 h7 h8 h9 h10 h11
                    have M5 := Lib.hid (M4.out.step hI)
                    clear hI
                    go_wp2_with fail
                    go_meet
                    exact ⟨_, _, F3, C3, 0, rfl, rfl, M5.out, by have := PD.out; omega, HST.out⟩
                · have k2 : (ki == 2) = false := beq_eq_false_iff_ne.2 h2
                  by_cases h3 : ki = 3
                  · subst h3
                    clear h0 h1 h2 ENV
                    as_aux_lemma =>
                      have BK := Lib.hid (brk_any M4.out.ls.1.disk at0 HAT.out.1.2)
                      go_wp2_with fail
                      refine BK.out.mono ?_
                      rintro e w5 ⟨rfl, ht⟩
                      obtain ⟨F5, h5⟩ := M4.out.turn ht rfl (M4.out.ls.1.byt.brk at0)
                      have M5 := Lib.hid h5
                      clear ht h5 BK m0 m1 m2
                      have m1 := cell_of_block (M5.out.st ab _ (.inr ⟨rfl, rfl⟩)).1 1
                      go_wp2_with (refine wpList_load_block rfl 59 (.tmp 8) rfl wb rfl C3 59 (0, 0) M5.out.hwb _ Try.underlying59 rfl M5.out.refwb.2.2 ?_)
                      refine (refbrk_any M5.out.ref at0 HAT.out.1).mono ?_
                      rintro e w6 ⟨v6, rfl, hr6, hb6⟩
                      obtain ⟨C6, rfl, hc1, hc2⟩ := hr6.form
                      have V1 : Hid ((Try.prog.info? 59).map (·.size) = some C6.size) := Lib.hid (by rw [hc1]; exact info_rd)
                      have V2 : Hid (C3.size = C6.size) := Lib.hid (by rw [hc1, M5.out.refwb.1])
                      have V3 := Lib.hid hc2
                      have Q6 := Lib.hid ((hb6.block _ (block_lt M5.out.hwb)).trans M5.out.hwb)
                      have M6 := Lib.hid (M5.out.newD hb6 hr6)
                      clear hr6 hb6 hc1 hc2
                      go_wp2_with (refine wpList_store_block rfl 59 (.tmp 8) (.tmp 159) rfl wb C6 rfl rfl C3 59 Q6.out V1.out V2.out V3.out ?_)
                      go_meet
                      exact ⟨_, _, F5, C6, 0, rfl, rfl, M6.out, by have := PD.out; show d3.pd.length ≤ _; omega, HST.out⟩
                  · have k3 : (ki == 3) = false := beq_eq_false_iff_ne.2 h3
                    by_cases h4 : ki = 4
                    · subst h4
                      clear h0 h1 h2 h3 ENV
                      as_aux_lemma =>
                        have KL := Lib.hid ((heap_alloc_old w4 (.cells #[] 4) (block_lt (M4.out.st ab _ (.inr ⟨rfl, rfl⟩)).1)).trans (M4.out.st ab _ (.inr ⟨rfl, rfl⟩)).1)
                        have m3 : (w4.alloc (.cells #[] 4)).cell? ⟨ab, 3, none⟩ = some (.slice A' ke.length c') := cell_of_block KL.out 3
                        have hk1 := SKC.out.2
                        have hk2 := SKC.out.1
                        have hs4 := M4.out.ls.2.1.size
                        clear m0 m1 m2
                        go_wp2_with (at_builtin; refine wpList_append_any rfl (.tmp 163) (.tmp 165) 43 rfl w4.heap.size 4 (.bool false) 1 1 Try.underlying43 info_bool rfl (by decide) (by decide) (.slice (some ⟨w4.heap.size, 0, none⟩) 0 0) 0 [] rfl ?a1 A' ke.length c' (blv ke) rfl ?a2 ?a3 ?a4 ?a5 ?a6 ?_)
                        case a1 => exact World.ownsRow_made w4 #[] 0 (Nat.le_refl _) (Nat.zero_le _) rfl
                        case a2 => exact (SK.out w4 M4.out.ls.2.1).same fun ad had hne => heap_alloc_old _ _ ((SK.out w4 M4.out.ls.2.1).lt had hne)
                        case a3 => simp [blv]
                        case a4 => exact fun u hu => by obtain ⟨x, _, rfl⟩ := List.mem_map.1 hu; rfl
                        case a5 => have := HAT.out.2; omega
                        case a6 => simp
                        intro v5 w5 ho5 hg5 _ _
                        try simp only [Nat.zero_add, List.nil_append] at ho5
                        obtain ⟨A5, c5, rfl, -⟩ := own_form ho5
                        have hb5 : Below w4.heap.size w4 w5 := ((Below.refl _ _).alloc (Nat.le_refl _) (.cells #[] 4)).grown hg5 (by simp) (by simp [Value.ownBlock])
                        have M5 := Lib.hid (M4.out.step hb5)
                        have CR := Lib.hid (crash_any M5.out.ls.1.disk ke A5 c5 (Fg.Src.of_own ho5) (fun ad had hF => by have h1 := (ho5.lt ad.block (by rw [had]; rfl)).1; have h2 := M4.out.ls.1.disk.lt _ hF; omega))
                        clear ho5 hg5 hb5 hk1 hk2 m3 KL
                        go_wp2_with fail
                        refine CR.out.mono ?_
                        rintro e w6 ⟨rfl, ht⟩
                        obtain ⟨F6, h6⟩ := M5.out.turn ht (crash_st d3 ke) (M5.out.ls.1.byt.crash ke)
                        have M6 := Lib.hid h6
                        clear ht h6 CR
                        have m4 := cell_of_block (M6.out.st ab _ (.inr ⟨rfl, rfl⟩)).1 3
                        go_wp2_with (refine wpList_load_block rfl 59 (.tmp 8) rfl wb rfl C3 59 (0, 0) M6.out.hwb _ Try.underlying59 rfl M6.out.refwb.2.2 ?_)
                        refine (refcrash_any M6.out.ref ke A' c' (SK.out _ M6.out.ls.2.1)).mono ?_
                        rintro e w7 ⟨v7, rfl, hr7, hb7⟩
                        obtain ⟨C7, rfl, hc1, hc2⟩ := hr7.form
                        have V1 : Hid ((Try.prog.info? 59).map (·.size) = some C7.size) := Lib.hid (by rw [hc1]; exact info_rd)
                        have V2 : Hid (C3.size = C7.size) := Lib.hid (by rw [hc1, M6.out.refwb.1])
                        have V3 := Lib.hid hc2
                        have Q7 := Lib.hid ((hb7.block _ (block_lt M6.out.hwb)).trans M6.out.hwb)
                        have M7 := Lib.hid (M6.out.newD hb7 hr7)
                        clear hr7 hb7 hc1 hc2
                        go_wp2_with (refine wpList_store_block rfl 59 (.tmp 8) (.tmp 171) rfl wb C7 rfl rfl C3 59 Q7.out V1.out V2.out V3.out ?_)
                        go_meet
                        exact ⟨_, _, F6, C7, 0, rfl, rfl, M7.out, by show (0 : Nat) ≤ _; omega, (crash_st d3 ke).trans HST.out⟩
                    · have k4 : (ki == 4) = false := beq_eq_false_iff_ne.2 h4
                      clear h0 h1 h2 h3 h4
                      go_wp2_with fail
                      go_meet
                      exact ⟨_, _, F3, C3, 0, rfl, rfl, M4.out, by have := PD.out; omega, HST.out⟩
          case rest =>
            obtain ⟨lh, dh, Fh, Ch, er, rfl, rfl, hkr, hpd, hst⟩ := hcut
            as_aux_lemma =>
              have M5 := Lib.hid hkr
              have P5 := Lib.hid hpd
              have T5 := Lib.hid hst
              have HOK5 := Lib.hid hkr.ls.1.disk.ok
              have BY5 := Lib.hid hkr.ls.1.byt
              clear hkr hpd hst m0 m1 m2 LOK PDB M4 PD HST
              have q0 := cell_of_block (M5.out.st W.heap.size _ (.inl ⟨rfl, rfl⟩)).1 0
              have SC := Lib.hid (scan_any M5.out.ls.1.disk BY5.out 5 e0 seg (by decide) HE0.out)
              have HSE5 : Hid (startE dh.st.length e0 seg = 0) := Lib.hid (by rw [T5.out]; exact HSE.out)
              have LNW : Hid ((Lg.new 5 e0 seg).ok dh.st.length) := Lib.hid (by
                have h1 := HSE5.out
                unfold startE at h1
                split at h1
                · rename_i ho
                  exact ⟨(by decide : (0 : Int) ≤ 5), (by decide : (5 : Int) < 4294967296), HE0.out.1, HE0.out.2, ho, ho, Int.le_refl 0, (by decide : (0 : Int) ≤ 16)⟩
                · cases h1)
              have SML : Hid (∀ x ∈ (scanAll dh 5 e0 seg).1, Crc.Small x.pay) := Lib.hid (scanF_small 496 _ dh LNW.out HOK5.out BY5.out)
              go_wp2_with fail
              refine SC.out.mono ?_
              rintro e w6 ⟨v6, rfl, hr6, hb6⟩
              rw [if_pos HSE5.out] at hr6 ⊢
              rw [HSE5.out]
              have M6 := Lib.hid (M5.out.step hb6)
              obtain ⟨A8, c8, la, rfl, hla, ra, ca, cma⟩ := hr6.at_ SML.out
              have RA := Lib.hid ra
              have HLA := Lib.hid hla
              have CA := Lib.hid (And.intro ca cma)
              clear hr6 hb6 SC q0 ra hla ca cma M5
              have q0 := cell_of_block (M6.out.st W.heap.size _ (.inl ⟨rfl, rfl⟩)).1 0
              go_wp2_with (refine wpList_load_block rfl 59 (.tmp 8) rfl wb rfl Ch 59 (0, 0) M6.out.hwb _ Try.underlying59 rfl M6.out.refwb.2.2 ?_)
              refine (refscan_any M6.out.ref BY5.out 5 e0 seg (by decide) HE0.out).mono ?_
              rintro e w7 ⟨v7, rfl, hr7, hb7⟩
              rw [if_pos HSE5.out] at hr7 ⊢
              rw [HSE5.out]
              have M7 := Lib.hid (M6.out.step hb7)
              obtain ⟨A9, c9, lm, rfl, hlm, rb, cb, cmb⟩ := hr7.at_ SML.out
              have RB := Lib.hid rb
              have RA7 := Lib.hid (RA.out.below hb7)
              have SR := Lib.hid (sameRecs_any RA7.out RB.out CA.out.1 CA.out.2 cb cmb)
              rw [HLA.out, hlm, decide_eq_true rfl] at SR
              obtain ⟨sg, hsg⟩ : ∃ x, (scanAll dh 5 e0 seg).2.seg = x := ⟨_, rfl⟩
              rw [hsg]
              clear hr7 hb7 q0 rb hlm cb cmb hsg M6 RA
              go_wp2_with fail
              refine SR.out.mono ?_
              rintro e w8 ⟨rfl, hb8⟩
              have M8 := Lib.hid (M7.out.step hb8)
              clear hb8 SR RA7 RB M7
              have m0 := cell_of_block (M8.out.st ab _ (.inr ⟨rfl, rfl⟩)).1 0
              have M9 := Lib.hid (M8.out.also (Q' := QB W.heap.size e0 (seg + 1)) (fun b o hq => .inl (.inl hq)))
              by_cases h4 : ki = 4
              · have k4 : (ki == 4) = true := beq_iff_eq.2 h4
                clear h4
                go_wp2_with fail
                go_meet
                exact ⟨_, _, Fh, Ch, M9.out, T5.out⟩
              · have k4 : (ki == 4) = false := beq_eq_false_iff_ne.2 h4
                by_cases h72 : er = 72
                · have k72 : (er == 72) = true := beq_iff_eq.2 h72
                  clear h4 h72
                  go_wp2_with fail
                  go_meet
                  exact ⟨_, _, Fh, Ch, M9.out, T5.out⟩
                · have k72 : (er == 72) = false := beq_eq_false_iff_ne.2 h72
                  clear h4 h72
                  have x0 : ∃ A3 c3, Ch[0]? = some (.slice A3 dh.st.length c3) := by
                    obtain ⟨A1, c1, A2, c2, lr, e, -⟩ := M9.out.ref
                    injection e with e
                    exact ⟨A1, c1, by rw [e]; rfl⟩
                  obtain ⟨A3, c3, x0⟩ := x0
                  have X0 := Lib.hid x0
                  clear x0
                  as_aux_lemma =>
                    have LOK9 : Hid (lh.ok dh.st.length) := Lib.hid M9.out.ls.1.ok
                    go_upto_region 46 with fail
                    clear m0
                    apply wp_region_words2 (fun w w' => Below w.heap.size w w') (fun _ w' => Below w8.heap.size w8 w')
                      [isVal _, isVal (.int .u64 lh.next), isVal _, isVal (.int .u64 lh.next), isVal (.bool false), isVal (.bool false), isVal _, isVal (.int .i64 lh.seg), isVal _, isVal (.int .i64 lh.seg), isVal (.bool false), isVal (.bool false), isVal (.bool false), isVal _, isVal (.int .i64 (lh.left dh.st.length)), isVal (.agg (rl lh)), isVal _, isVal (.slice A3 dh.st.length c3), isVal (.int .i64 dh.st.length), isVal (.int .i64 (lh.left dh.st.length)), isVal (.bool false), isVal (.bool false)]
                      [[], [0], [], [2], [1, 3], [4], [5], [5, 6], [5], [5, 8], [5, 7, 9], [5, 10], [11], [12], [12, 13], [12], [12], [12, 16], [12, 17], [12, 15, 18], [12, 14, 19], [12, 20]] [0, 1, 2, 3, 4, 5, 6, 7, 8, 9, 10, 11, 12, 13, 14, 15, 16, 17, 18, 19, 20, 21] (by kernel_rfl) (by kernel_rfl) ?hFc ?standc ?hIc ?stepsc ?finc
                    case hFc => intro v; simp [fillFrom, Act.put]; rfl
                    case standc =>
                      repeat' (first | exact trivial | (refine And.intro ?_ ?_))
                      all_goals first | (intro u w w' h _ _; exact h)
                    case hIc => exact below_dr (Below.refl _ _)
                    case stepsc =>
                      refine And.intro ?_ ?_
                      · intro d v w' hdk hI hdn hd K hK
                        simp only [allOf, word, List.getD_cons_zero, List.getD_cons_succ, isVal, and_true, true_and] at hd
                        have HK := Lib.hid hK
                        clear hK
                        go_simp
                        exact HK.out _ _ rfl hI (Below.refl _ _)
                      refine And.intro ?_ ?_
                      · intro d v w' hdk hI hdn hd K hK
                        simp only [allOf, word, List.getD_cons_zero, List.getD_cons_succ, isVal, and_true, true_and] at hd
                        try simp only [hd] at hK
                        have HK := Lib.hid hK
                        clear hK
                        go_simp
                        refine (lnext_any (M9.out.ls.1.below hI)).mono ?_
                        rintro e w5 ⟨rfl, rfl⟩
                        exact HK.out _ _ rfl hI (Below.refl _ _)
                      refine And.intro ?_ ?_
                      · intro d v w' hdk hI hdn hd K hK
                        simp only [allOf, word, List.getD_cons_zero, List.getD_cons_succ, isVal, and_true, true_and] at hd
                        have HK := Lib.hid hK
                        clear hK
                        go_simp
                        exact HK.out _ _ rfl hI (Below.refl _ _)
                      refine And.intro ?_ ?_
                      · intro d v w' hdk hI hdn hd K hK
                        simp only [allOf, word, List.getD_cons_zero, List.getD_cons_succ, isVal, and_true, true_and] at hd
                        simp only [hd] at hK
                        have cc : w'.cell? ⟨mb, 1, none⟩ = some (.int .u64 lh.next) := cell_of_block ((hI.block _ (block_lt M9.out.hmb)).trans M9.out.hmb) 1
                        have HK := Lib.hid hK
                        clear hK
                        go_simp
                        exact HK.out _ _ rfl hI (Below.refl _ _)
                      refine And.intro ?_ ?_
                      · intro d v w' hdk hI hdn hd K hK
                        simp only [allOf, word, List.getD_cons_zero, List.getD_cons_succ, isVal, and_true, true_and] at hd
                        try simp only [hd] at hK
                        have HK := Lib.hid hK
                        clear hK
                        go_simp
                        exact HK.out _ _ rfl hI (Below.refl _ _)
                      refine And.intro ?_ ?_
                      · intro d v w' hdk hI hdn hd K hK
                        simp only [allOf, word, List.getD_cons_zero, List.getD_cons_succ, isVal, and_true, true_and] at hd
                        try simp only [hd] at hK
                        have HK := Lib.hid hK
                        clear hK
                        go_simp
                        exact HK.out _ _ rfl hI (Below.refl _ _)
                      refine And.intro ?_ ?_
                      · intro d v w' hdk hI hdn hd K hK
                        simp only [allOf, word, List.getD_cons_zero, List.getD_cons_succ, isVal, and_true, true_and] at hd
                        try simp only [hd] at hK
                        have HK := Lib.hid hK
                        clear hK
                        go_simp
                        exact HK.out _ _ rfl hI (Below.refl _ _)
                      refine And.intro ?_ ?_
                      · intro d v w' hdk hI hdn hd K hK
                        simp only [allOf, word, List.getD_cons_zero, List.getD_cons_succ, isVal, and_true, true_and] at hd
                        try simp only [hd] at hK
                        have HK := Lib.hid hK
                        clear hK
                        go_simp
                        refine (lseg_any (M9.out.ls.1.below hI)).mono ?_
                        rintro e w5 ⟨rfl, rfl⟩
                        exact HK.out _ _ rfl hI (Below.refl _ _)
                      refine And.intro ?_ ?_
                      · intro d v w' hdk hI hdn hd K hK
                        simp only [allOf, word, List.getD_cons_zero, List.getD_cons_succ, isVal, and_true, true_and] at hd
                        try simp only [hd] at hK
                        have HK := Lib.hid hK
                        clear hK
                        go_simp
                        exact HK.out _ _ rfl hI (Below.refl _ _)
                      refine And.intro ?_ ?_
                      · intro d v w' hdk hI hdn hd K hK
                        simp only [allOf, word, List.getD_cons_zero, List.getD_cons_succ, isVal, and_true, true_and] at hd
                        obtain ⟨h5, h8⟩ := hd
                        simp only [h5, h8] at hK
                        have cc : w'.cell? ⟨mb, 3, none⟩ = some (.int .i64 lh.seg) := cell_of_block ((hI.block _ (block_lt M9.out.hmb)).trans M9.out.hmb) 3
                        have HK := Lib.hid hK
                        clear hK
                        go_simp
                        exact HK.out _ _ rfl hI (Below.refl _ _)
                      refine And.intro ?_ ?_
                      · intro d v w' hdk hI hdn hd K hK
                        simp only [allOf, word, List.getD_cons_zero, List.getD_cons_succ, isVal, and_true, true_and] at hd
                        try simp only [hd] at hK
                        have HK := Lib.hid hK
                        clear hK
                        go_simp
                        exact HK.out _ _ rfl hI (Below.refl _ _)
                      refine And.intro ?_ ?_
                      · intro d v w' hdk hI hdn hd K hK
                        simp only [allOf, word, List.getD_cons_zero, List.getD_cons_succ, isVal, and_true, true_and] at hd
                        try simp only [hd] at hK
                        have HK := Lib.hid hK
                        clear hK
                        go_simp
                        exact HK.out _ _ rfl hI (Below.refl _ _)
                      refine And.intro ?_ ?_
                      · intro d v w' hdk hI hdn hd K hK
                        simp only [allOf, word, List.getD_cons_zero, List.getD_cons_succ, isVal, and_true, true_and] at hd
                        try simp only [hd] at hK
                        have HK := Lib.hid hK
                        clear hK
                        go_simp
                        exact HK.out _ _ rfl hI (Below.refl _ _)
                      refine And.intro ?_ ?_
                      · intro d v w' hdk hI hdn hd K hK
                        simp only [allOf, word, List.getD_cons_zero, List.getD_cons_succ, isVal, and_true, true_and] at hd
                        try simp only [hd] at hK
                        have HK := Lib.hid hK
                        clear hK
                        go_simp
                        exact HK.out _ _ rfl hI (Below.refl _ _)
                      refine And.intro ?_ ?_
                      · intro d v w' hdk hI hdn hd K hK
                        simp only [allOf, word, List.getD_cons_zero, List.getD_cons_succ, isVal, and_true, true_and] at hd
                        try simp only [hd] at hK
                        have HK := Lib.hid hK
                        clear hK
                        go_simp
                        refine (left_any (M9.out.ls.1.below hI)).mono ?_
                        rintro e w5 ⟨rfl, hb5⟩
                        exact HK.out _ _ rfl (hI.trans (hb5.mono hI.size)) hb5
                      refine And.intro ?_ ?_
                      · intro d v w' hdk hI hdn hd K hK
                        simp only [allOf, word, List.getD_cons_zero, List.getD_cons_succ, isVal, and_true, true_and] at hd
                        have HK := Lib.hid hK
                        clear hK
                        rw [if_pos (by simp [Region.wanted, yielded, hd])]
                        have hgw := (hI.block _ (block_lt M9.out.hmb)).trans M9.out.hmb
                        refine wp_load_block 62 (.tmp 12) rfl mb rfl (rl lh) 62 (0, 0) hgw _ Try.underlying62 rfl rlInfo ?_
                        exact HK.out _ _ rfl hI (Below.refl _ _)
                      refine And.intro ?_ ?_
                      · intro d v w' hdk hI hdn hd K hK
                        simp only [allOf, word, List.getD_cons_zero, List.getD_cons_succ, isVal, and_true, true_and] at hd
                        try simp only [hd] at hK
                        have HK := Lib.hid hK
                        clear hK
                        go_simp
                        exact HK.out _ _ rfl hI (Below.refl _ _)
                      refine And.intro ?_ ?_
                      · intro d v w' hdk hI hdn hd K hK
                        simp only [allOf, word, List.getD_cons_zero, List.getD_cons_succ, isVal, and_true, true_and] at hd
                        obtain ⟨h12, h16⟩ := hd
                        simp only [h12, h16] at hK
                        have cc : w'.cell? ⟨wb, 0, none⟩ = some (.slice A3 dh.st.length c3) := (cell_of_block ((hI.block _ (block_lt M9.out.hwb)).trans M9.out.hwb) 0).trans X0.out
                        have HK := Lib.hid hK
                        clear hK
                        go_simp
                        exact HK.out _ _ rfl hI (Below.refl _ _)
                      refine And.intro ?_ ?_
                      · intro d v w' hdk hI hdn hd K hK
                        simp only [allOf, word, List.getD_cons_zero, List.getD_cons_succ, isVal, and_true, true_and] at hd
                        try simp only [hd] at hK
                        have HK := Lib.hid hK
                        clear hK
                        go_simp
                        exact HK.out _ _ rfl hI (Below.refl _ _)
                      refine And.intro ?_ ?_
                      · intro d v w' hdk hI hdn hd K hK
                        simp only [allOf, word, List.getD_cons_zero, List.getD_cons_succ, isVal, and_true, true_and] at hd
                        try simp only [hd] at hK
                        have HK := Lib.hid hK
                        clear hK
                        go_simp
                        refine (refleft_any lh dh.st.length LOK9.out w').mono ?_
                        rintro e w5 ⟨rfl, hb5⟩
                        exact HK.out _ _ rfl (hI.trans (hb5.mono hI.size)) hb5
                      refine And.intro ?_ ?_
                      · intro d v w' hdk hI hdn hd K hK
                        simp only [allOf, word, List.getD_cons_zero, List.getD_cons_succ, isVal, and_true, true_and] at hd
                        try simp only [hd] at hK
                        have HK := Lib.hid hK
                        clear hK
                        go_simp
                        exact HK.out _ _ rfl hI (Below.refl _ _)
                      refine And.intro ?_ ?_
                      · intro d v w' hdk hI hdn hd K hK
                        simp only [allOf, word, List.getD_cons_zero, List.getD_cons_succ, isVal, and_true, true_and] at hd
                        try simp only [hd] at hK
                        have HK := Lib.hid hK
                        clear hK
                        go_simp
                        exact HK.out _ _ rfl hI (Below.refl _ _)
                      exact trivial
                    intro v w9 dn hall hI hd
                    simp only [allOf, word, List.getD_cons_zero, List.getD_cons_succ, isVal, and_true, true_and] at hd
                    obtain ⟨h0, h1, h2, h3, h4, h5, h6, h7, h8, h9, h10, h11, h12, h13, h14, h15, h16, h17, h18, h19, h20, h21⟩ := hd
                    simp only [h0, h1, h2, h3, h4, h5, h6, h7, h8, h9, h10, h11, h12, h13, h14, h15, h16, h17, h18, h19, h20, h21]
                    clear h0 h1 h2 h3 h4 h5 h6 h7 h8 h9 h10 h11 h12 h13 h14 h15 h16 h17 h18 h19 h20 h21
                    have M10 := Lib.hid (M9.out.step hI)
                    clear hI
                    go_wp2_with fail
                    go_roundg (gk - 1)
                    case measure => omega
                    case rel => exact ⟨j + 1, by omega, by go_num, lh, dh, Fh, Ch, M10.out, P5.out, T5.out⟩
        · clear ENV
          go_wp2_with fail
          go_meet
          exact ⟨lg, d3, F3, C3, M3.out, HST.out⟩
    case rest =>
      obtain ⟨lz, dz, Fz, Cz, hkr, hst⟩ := hcut
      as_aux_lemma =>
        have LZ := Lib.hid hkr.ls
        have HWZ := Lib.hid hkr.hwb
        obtain ⟨A3, c3, A4, c4, lr, e, rv, -⟩ := hkr.ref
        injection e with e
        have x0 : wc.cell? ⟨wb, 0, none⟩ = some (.slice A3 dz.st.length c3) := (cell_of_block hkr.hwb 0).trans (by rw [e]; rfl)
        have ROW0 := Lib.hid rv.rows.1
        have FEW := Lib.hid rv.few
        have XZ : Hid (Cz[0]? = some (.slice A3 dz.st.length c3)) := Lib.hid (by rw [e]; rfl)
        clear hkr hst rv e ENV START KR0 HB0 B0 B1 S1 DI HF U1 U2 U3 HC0 BX RX SZ2 X1 B3 D3 K0 L0 L1 L3 B4 B34 L4 X4 B5 B35 B45 HNIL HEQ
        go_wp2_with fail
        clear x0
        go_loopg [242] dz.st.length (fun k v wx => ∃ i : Nat, i + k = dz.st.length ∧ v = .int .i64 i ∧ Below wc.heap.size wc wx)
        case atStart => exact ⟨0, Nat.zero_add _, rfl, Below.refl _ _⟩
        case round =>
          obtain ⟨i, hi, rfl, hbx⟩ := hrel
          have L1 := Lib.hid (LZ.out.below hbx)
          have BX := Lib.hid hbx
          clear hbx
          by_cases hil : i < dz.st.length
          · have hth : dz.there i = true := by simp [Dk.there, hil]
            have HE : Hid (dz.sErr i = 0) := Lib.hid (if_pos hth)
            obtain ⟨ps, rfl, hpl, hps⟩ := ROW0.out i (bv (dz.stable i)) (by rw [Dk.stable, if_pos hth]; simp [sv, hil])
            have HPL0 := Lib.hid hpl
            have HPS0 := Lib.hid hps
            have L64 : Hid ((dz.stable i).length = 64) := Lib.hid (Dk.stable_64 LZ.out.1.disk.ok i)
            have Z1 := Lib.hid (sec_toArray L64.out)
            have Z2 : Hid ((bv noSec).toArray.size = (bv (dz.stable i)).toArray.size) := Lib.hid (by simp [bv, noSec, L64.out])
            have Z3 := Lib.hid (sec_one (dz.stable i))
            have Z4 : Hid ((Try.prog.info? 77).map (·.size) = some (bv (dz.stable i)).length) := Lib.hid (by rw [secSize, bv_length, L64.out])
            clear hth hpl hps
            go_wp2_with fail
            refine (stable_any L1.out.1.disk i).mono ?_
            rintro e w4 ⟨rfl, hb4⟩
            rw [HE.out]
            have B4 : Hid (Below wc.heap.size wc w4) := Lib.hid (BX.out.trans (hb4.mono BX.out.size))
            clear hb4
            have R04 := Lib.hid (heap_alloc_at w4 (.cells (bv noSec).toArray 77))
            have T6 := Lib.hid (setRow_at (bv (dz.stable i)).toArray R04.out)
            have R24 : Hid (Below w4.heap.size w4 ((w4.alloc (.cells (bv noSec).toArray 77)).setRow w4.heap.size (bv (dz.stable i)).toArray)) := Lib.hid (below_setRow ((Below.refl _ _).alloc (Nat.le_refl _) _) (Nat.le_refl _) _)
            go_upto_region 53 with (first
              | refine wpList_alloc_as rfl 77 rfl (bv noSec).toArray secZero ?_
              | refine wpList_store_block rfl 77 (.tmp 32) (.tmp 249) rfl w4.heap.size (bv (dz.stable i)).toArray rfl rfl (bv noSec).toArray 77 R04.out Z1.out Z2.out Z3.out ?_)
            generalize (w4.alloc (.cells (bv noSec).toArray 77)).setRow w4.heap.size (bv (dz.stable i)).toArray = w6 at *
            have B6 : Hid (Below wc.heap.size wc w6) := Lib.hid (B4.out.trans (R24.out.mono B4.out.size))
            have HW6 := Lib.hid ((B6.out.block _ (block_lt HWZ.out)).trans HWZ.out)
            have HPL : Hid (ps < w6.heap.size) := Lib.hid (Nat.lt_of_lt_of_le HPL0.out B6.out.size)
            have HPS : Hid (w6.rangeAt ps (i * 64) (bv (dz.stable i))) := Lib.hid (fun q v hv => (B6.out.cell (p := ⟨ps, i * 64 + q, none⟩) HPL0.out).trans (HPS0.out q v hv))
            have q1 : ∀ w : World, (Op.equalIn 10000 77 (.agg (bv (dz.stable i)).toArray) (.agg (bv (dz.stable i)).toArray)).run Try.prog w = .ok true w := fun w => by rw [sec_eq _ _ L64.out L64.out]; simp
            have hil' : (i : Int) < (dz.st.length : Int) := by omega
            have hi0 : (0 : Int) ≤ (i : Int) := by omega
            apply wp_region_words (fun w w' => w' = w) (fun w' => Below w6.heap.size w6 w')
              [isVal (.agg (bv (dz.stable i)).toArray), isVal _, isVal (.slice (some ⟨ps, 0, none⟩) dz.st.length c3), isVal _, isVal _, isVal (.agg (bv (dz.stable i)).toArray), isVal _]
              [[], [], [1], [], [2, 3], [4], [0, 5]] [0, 1, 2, 3, 4, 5, 6] (by kernel_rfl) (by kernel_rfl) ?hFb ?standb ?hIb ?stepsb ?finb
            case hFb => intro v; simp [fillFrom, Act.put]; rfl
            case standb =>
              repeat' (first | exact trivial | (refine And.intro ?_ ?_))
              all_goals first | (intro u w w' h _ _; exact h)
            case hIb => exact below_dr (Below.refl _ _)
            case stepsb =>
              refine And.intro ?_ ?_
              · intro v w' hI hd K hK
                simp only [allOf, word, List.getD_cons_zero, List.getD_cons_succ, isVal, and_true, true_and] at hd
                have HK := Lib.hid hK
                clear hK
                rw [if_pos (by rfl)]
                refine wp_load_block 77 (.tmp 32) rfl w4.heap.size rfl (bv (dz.stable i)).toArray 77 (0, 0) ((hI.block _ (block_lt T6.out)).trans T6.out) _ secUnder rfl Z1.out ?_
                exact HK.out _ _ rfl hI rfl
              refine And.intro ?_ ?_
              · intro v w' hI hd K hK
                simp only [allOf, word, List.getD_cons_zero, List.getD_cons_succ, isVal, and_true, true_and] at hd
                have HK := Lib.hid hK
                clear hK
                go_simp
                exact HK.out _ _ rfl hI (rfl)
              refine And.intro ?_ ?_
              · intro v w' hI hd K hK
                simp only [allOf, word, List.getD_cons_zero, List.getD_cons_succ, isVal, and_true, true_and] at hd
                simp only [hd] at hK
                have cc : w'.cell? ⟨wb, 0, none⟩ = some (.slice (some ⟨ps, 0, none⟩) dz.st.length c3) := (cell_of_block ((hI.block _ (block_lt HW6.out)).trans HW6.out) 0).trans XZ.out
                have HK := Lib.hid hK
                clear hK
                go_simp
                exact HK.out _ _ rfl hI (rfl)
              refine And.intro ?_ ?_
              · intro v w' hI hd K hK
                simp only [allOf, word, List.getD_cons_zero, List.getD_cons_succ, isVal, and_true, true_and] at hd
                have HK := Lib.hid hK
                clear hK
                go_simp
                exact HK.out _ _ rfl hI (rfl)
              refine And.intro ?_ ?_
              · intro v w' hI hd K hK
                simp only [allOf, word, List.getD_cons_zero, List.getD_cons_succ, isVal, and_true, true_and] at hd
                try simp only [hd] at hK
                have HK := Lib.hid hK
                clear hK
                go_simp
                exact HK.out _ _ rfl hI (rfl)
              refine And.intro ?_ ?_
              · intro v w' hI hd K hK
                simp only [allOf, word, List.getD_cons_zero, List.getD_cons_succ, isVal, and_true, true_and] at hd
                have HK := Lib.hid hK
                clear hK
                rw [if_pos (by rfl)]
                refine wp_load_mid 77 (.tmp 255) rfl ps (i * 64) hd (bv (dz.stable i)) _ (fun q v hv => (hI.cell (p := ⟨ps, i * 64 + q, none⟩) HPL.out).trans (HPS.out q v hv)) secUnder rfl Z4.out ?_
                exact HK.out _ _ rfl hI rfl
              refine And.intro ?_ ?_
              · intro v w' hI hd K hK
                simp only [allOf, word, List.getD_cons_zero, List.getD_cons_succ, isVal, and_true, true_and] at hd
                try simp only [hd] at hK
                have HK := Lib.hid hK
                clear hK
                go_simp
                exact HK.out _ _ rfl hI (rfl)
              exact trivial
            intro v w7 hI hd
            simp only [allOf, word, List.getD_cons_zero, List.getD_cons_succ, isVal, and_true, true_and] at hd
            obtain ⟨h0, h1, h2, h3, h4, h5, h6⟩ := hd
            simp only [h0, h1, h2, h3, h4, h5, h6]
            clear h0 h1 h2 h3 h4 h5 h6
            have hfew : (dz.st.length : Int) ≤ 512 := by have := FEW.out.1; omega
            go_wp2_with fail
            go_roundg (gk - 1)
            case measure => omega
            case rel => exact ⟨i + 1, by omega, by go_num, B6.out.trans (hI.mono B6.out.size)⟩
          · go_wp2_with fail
            go_ret
            exact ⟨rfl, L1.out.2.1⟩
  · obtain rfl := HNIL.out hE
    rw [if_neg hE]
    unfold rl lg0
    obtain ⟨er, her⟩ : ∃ x, startE N e0 seg = x := ⟨_, rfl⟩
    have hEb : (er != 0) = true := by rw [← her]; exact bne_iff_ne.2 hE
    have hEe : (er == 0) = false := by rw [← her]; exact beq_eq_false_iff_ne.2 hE
    rw [her]
    clear hE her
    go_wp2_with fail
    go_ret
    exact ⟨rfl, B5.out.alloc B5.out.size _⟩
end Go.Proofs.Ytogkibikghbghaa.Wal

namespace Go.Proofs.Ytogkibikghbghaa.Wal
open Go.RowKit Go.Proofs.Ytogkibikghbghaa.Fg Go.Proofs.Ytogkibikghbghaa.Disk Go.ChangeShapes Go.WideShapes Go.ChangeAt

theorem u64_range {n : Int} (h : (Lit.int .u64 n).wf = true) : 0 ≤ n ∧ n < 18446744073709551616 := by
  have hmin : IntKind.u64.min = 0 := rfl
  have hmax : IntKind.u64.max = 18446744073709551615 := rfl
  simp only [Lit.wf, Bool.and_eq_true, decide_eq_true_eq, hmin, hmax] at h
  omega
theorem list_two2 {α : Type} {l : List α} (h : l.length = 2) : ∃ a b, l = [a, b] := by
  match l, h with
  | [a, b], _ => exact ⟨a, b, rfl⟩
set_option maxRecDepth 100000 in
theorem walRuns_lifted (os : Os) (started : os.Started) (H : Type) (enc : TypeId × Value → H) :
    ReturnsInHanded {} Try.checked os 7 .any (Rows.walRunsSpec.pre6 enc Try.prog Try.f7 Rows.walRunsRow.domain false) (Rows.walRunsSpec.post enc Try.prog Try.f7 false true false false) := by
  refine law_lifted (C := Try.checked) laidOut own started (by kernel_rfl) Try.func7 rfl Try.underlying4 (by kernel_rfl) rfl
    (ChangeSpec.witness6 (enc := enc) (C := Try.checked) false ⟨#[], #[.int .i64 0, .agg #[.int .u64 0, .int .u64 0], .slice none 0 0], []⟩ 8 (by kernel_rfl) (by kernel_rfl) (by kernel_rfl) (by kernel_rfl)) ?_
  intro W base args ds p hval0 hA0 _ hsz0
  have hval : ∀ (j : Nat) t v, Try.f7.params[j]? = some t → args[j]? = some v → Value.okWide Try.prog W .any base t v := hval0
  have hA : DataW.TrodAll enc Try.prog W 0 (fun _ => true) true Try.f7.params.toList args ds p := hA0
  have hsz : (DataW.weightsEach Try.prog Try.f7.params.toList ds).all (· ≤ reachBytes) = true := hsz0
  rw [Try.params7] at hA hval hsz
  obtain ⟨v0, vs0, d0, ds0, p0, q0, rfl, rfl, rfl, h0, r0⟩ := trodAll_cons hA
  obtain ⟨v1, vs1, d1, ds1, p1, q1, rfl, rfl, rfl, h1, r1⟩ := trodAll_cons r0
  obtain ⟨v2, vs2, d2, ds2, p2, q2, rfl, rfl, rfl, h2, r2⟩ := trodAll_cons r1
  obtain ⟨rfl, rfl, rfl⟩ := trodAll_nil r2
  obtain ⟨z0, rfl, rfl, rfl, wz0⟩ := open_int Try.underlying3 (hval 0 _ v0 rfl rfl) h0
  obtain ⟨xs, hx, rfl, wx⟩ := open_array Try.underlying55 Try.underlying29 (by kernel_rfl) (by kernel_rfl) (hval 1 _ v1 rfl rfl) h1
  obtain ⟨e0, e1, rfl⟩ := list_two2 hx
  obtain ⟨A2, c2, l2, rfl, lc2, cm2, s2⟩ := open_acts (hval 2 _ v2 rfl rfl) h2 (fun n hn => of_decide_eq_true (List.all_eq_true.1 hsz n (DataW.weights_mem_each (j := 2) rfl rfl n hn)))
  exact ⟨rfl, runs_law z0 wz0 e0 e1 (u64_range (wx e0 (by simp))) (u64_range (wx e1 (by simp))) A2 c2 l2 W lc2 cm2 s2⟩
end Go.Proofs.Ytogkibikghbghaa.Wal
namespace Go.Proofs.Ytogkibikghbghaa
/-- The row, under a short name, for the claim. -/
theorem walRuns_holds : Rows.WalRunsSaid :=
  OpenClaim.holds_of_wide 7 Try.f7 rfl rfl rfl rfl rfl rfl rfl ⟨rfl, rfl, rfl, rfl, rfl⟩ rfl rfl rfl rfl rfl (by kernel_rfl) Try.func7 (by kernel_rfl)
    (of_decide_eq_true (by kernel_rfl)) (by unfold Func.isWrapper; first | (rw [if_pos (by decide +kernel)]; kernel_rfl) | (rw [if_neg (by decide +kernel)]; exact ⟨rfl, rfl⟩))
    (fun os started H enc _ => Wal.walRuns_lifted os started H enc)
#print axioms walRuns_holds
end Go.Proofs.Ytogkibikghbghaa
