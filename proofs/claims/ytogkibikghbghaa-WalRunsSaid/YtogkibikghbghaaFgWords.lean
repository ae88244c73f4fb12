/- A law for regions that draw their order: each operation is given a word of its own, which later operations leave standing. General; no conditions beyond the lemma's own hypotheses. -/
import Derived.Test.YtogkibikghbghaaFgMem
import Derived.Orders
import Derived.RegionTactic
namespace Go.Proofs.Ytogkibikghbghaa.Fg
open Go.RowKit

section
variable {P : Program} {ops : Array Oper} {Q : Exit → Act → World → Prop} {md : Region.Mode}

/-- A frame whose slots 'ds' are filled with values. -/
def fillFrom (a : Act) (v : Nat → Value) : Nat → List (Option Tmp) → Act
  | _, [] => a
  | k, d :: ds => (fillFrom a v (k + 1) ds).put d (v k)
def word (l : List (Value → World → Prop)) (j : Nat) (u : Value) (w : World) : Prop := (l.getD j (fun _ _ => True)) u w
/-- The words of some operations. -/
def allOf (l : List (Value → World → Prop)) (v : Nat → Value) (w : World) : List Nat → Prop
  | [] => True
  | j :: js => word l j (v j) w ∧ allOf l v w js
theorem allOf_of {l : List (Value → World → Prop)} {v : Nat → Value} {w : World} : ∀ {js : List Nat}, (∀ j ∈ js, word l j (v j) w) → allOf l v w js
  | [], _ => trivial
  | j :: _, h => ⟨h j (List.mem_cons_self ..), allOf_of fun k hk => h k (List.mem_cons_of_mem _ hk)⟩

/-- One operation's own step. -/
def OneStep (P : Program) (ops : Array Oper) (Q : Exit → Act → World → Prop) (E : World → World → Prop) (I : World → Prop) (R : List (Value → World → Prop)) (F : (Nat → Value) → Act) (D : List (List Nat)) (k : Nat) (o : Oper) : Prop :=
  ∀ (v : Nat → Value) (w : World), I w → allOf R v w (D.getD k []) → ∀ K : Act → World → Prop, (∀ u w', word R k u w' → I w' → E w w' → K ((F v).put o.dst u) w') →
    if Region.wanted o (yielded ops (F v).tmps) = true then Oper.wp P o (F v) w K Q else K ((F v).put o.dst undef) w
def AllSteps (P : Program) (ops : Array Oper) (Q : Exit → Act → World → Prop) (E : World → World → Prop) (I : World → Prop) (R : List (Value → World → Prop)) (F : (Nat → Value) → Act) (D : List (List Nat)) : Nat → List Oper → Prop
  | _, [] => True
  | k, o :: os => OneStep P ops Q E I R F D k o ∧ AllSteps P ops Q E I R F D (k + 1) os
theorem AllSteps.get {E : World → World → Prop} {I : World → Prop} {R : List (Value → World → Prop)} {F : (Nat → Value) → Act} {D : List (List Nat)} :
    ∀ {os : List Oper} {k i : Nat} {o : Oper}, AllSteps P ops Q E I R F D k os → os[i]? = some o → OneStep P ops Q E I R F D (k + i) o
  | [], _, _, _, _, h => by simp at h
  | x :: os, k, 0, o, hs, h => by
    simp only [List.getElem?_cons_zero, Option.some.injEq] at h
    subst h
    exact hs.1
  | x :: os, k, i + 1, o, hs, h => by
    simp only [List.getElem?_cons_succ] at h
    have := AllSteps.get hs.2 h
    rw [show k + 1 + i = k + (i + 1) by omega] at this
    exact this

/-- Some operations are done. -/
def allTrue (d : Nat → Bool) : List Nat → Prop
  | [] => True
  | j :: js => d j = true ∧ allTrue d js
theorem allTrue_of {d : Nat → Bool} : ∀ {js : List Nat}, (∀ j ∈ js, d j = true) → allTrue d js
  | [], _ => trivial
  | j :: _, h => ⟨h j (List.mem_cons_self ..), allTrue_of fun k hk => h k (List.mem_cons_of_mem _ hk)⟩
/-- The same, where the invariant may know what is done. -/
def OneStep2 (P : Program) (ops : Array Oper) (Q : Exit → Act → World → Prop) (E : World → World → Prop) (I : (Nat → Bool) → World → Prop) (R : List (Value → World → Prop)) (F : (Nat → Value) → Act) (D : List (List Nat)) (k : Nat) (o : Oper) : Prop :=
  ∀ (d : Nat → Bool) (v : Nat → Value) (w : World), d k = false → I d w → allTrue d (D.getD k []) → allOf R v w (D.getD k []) → ∀ K : Act → World → Prop, (∀ u w', word R k u w' → I (fun j => if j = k then true else d j) w' → E w w' → K ((F v).put o.dst u) w') →
    if Region.wanted o (yielded ops (F v).tmps) = true then Oper.wp P o (F v) w K Q else K ((F v).put o.dst undef) w
def AllSteps2 (P : Program) (ops : Array Oper) (Q : Exit → Act → World → Prop) (E : World → World → Prop) (I : (Nat → Bool) → World → Prop) (R : List (Value → World → Prop)) (F : (Nat → Value) → Act) (D : List (List Nat)) : Nat → List Oper → Prop
  | _, [] => True
  | k, o :: os => OneStep2 P ops Q E I R F D k o ∧ AllSteps2 P ops Q E I R F D (k + 1) os
theorem AllSteps2.get {E : World → World → Prop} {I : (Nat → Bool) → World → Prop} {R : List (Value → World → Prop)} {F : (Nat → Value) → Act} {D : List (List Nat)} :
    ∀ {os : List Oper} {k i : Nat} {o : Oper}, AllSteps2 P ops Q E I R F D k os → os[i]? = some o → OneStep2 P ops Q E I R F D (k + i) o
  | [], _, _, _, _, h => by simp at h
  | x :: os, k, 0, o, hs, h => by
    simp only [List.getElem?_cons_zero, Option.some.injEq] at h
    subst h
    exact hs.1
  | x :: os, k, i + 1, o, hs, h => by
    simp only [List.getElem?_cons_succ] at h
    have := AllSteps2.get hs.2 h
    rw [show k + 1 + i = k + (i + 1) by omega] at this
    exact this

/-- The closed facts of a region: its slots are told apart, and each operation stands behind those whose words it is given. -/
def distinctB : List (Option Tmp) → Bool
  | [] => true
  | none :: ds => distinctB ds
  | some d :: ds => !ds.contains (some d) && distinctB ds
def depsB (ops : Array Oper) (D : List (List Nat)) : Bool :=
  (List.range ops.size).all fun k => (D.getD k []).all fun j => match ops[k]? with
    | some o => o.after.any fun e => Region.binds .any e && e.on == j
    | none => true

def backB (ops : Array Oper) : Bool :=
  (List.range ops.size).all fun k => match ops[k]? with
    | some o => o.after.all fun e => !Region.binds .any e || decide (e.on < k)
    | none => true
/-- While something is left, something is ready. -/
theorem ready_of_left {listed : Array Bool} (hb : backB ops = true) : ∀ (n j : Nat), j < n → j < ops.size → listed.size = ops.size → listed.getD j false = false → Region.ready .any ops listed ≠ []
  | 0, _, h, _, _, _ => absurd h (Nat.not_lt_zero _)
  | n + 1, j, h, hj, hsz, hl => by
    by_cases hmin : ∀ i, i < j → listed.getD i false = true
    · intro hr
      have hjl : j < listed.size := by omega
      have : j ∈ Region.ready .any ops listed := by
        refine mem_ready.2 ⟨by simpa [hjl] using hl, ops[j], Array.getElem?_eq_getElem hj, fun e he hbd => hmin e.on ?_⟩
        simp only [backB, List.all_eq_true, List.mem_range] at hb
        have h1 := hb j hj
        rw [Array.getElem?_eq_getElem hj] at h1
        have h2 := Array.all_eq_true_iff_forall_mem.1 h1 e he
        rw [show Region.binds .any e = true from hbd] at h2
        exact of_decide_eq_true h2
      rw [hr] at this
      cases this
    · obtain ⟨i, hi⟩ := Classical.not_forall.1 hmin
      obtain ⟨hij, hil⟩ := Classical.not_imp.1 hi
      exact ready_of_left hb n i (by omega) (by omega) hsz (by simpa using hil)

theorem put_put (a : Act) (d : Option Tmp) (u v : Value) : (a.put d u).put d v = a.put d v := by
  cases d with
  | none => rfl
  | some d => simp [Act.put]
theorem fill_put {a : Act} {v : Nat → Value} : ∀ (ds : List (Option Tmp)) (k i : Nat) (d : Option Tmp) (u : Value), distinctB ds = true → ds[i]? = some d →
    (fillFrom a v k ds).put d u = fillFrom a (fun j => if j = k + i then u else v j) k ds
  | [], _, _, _, _, _, h => by simp at h
  | x :: ds, k, 0, d, u, hd, h => by
    simp only [List.getElem?_cons_zero, Option.some.injEq] at h
    subst h
    have same : ∀ (ds : List (Option Tmp)) (m : Nat), k < m → fillFrom a (fun j => if j = k + 0 then u else v j) m ds = fillFrom a v m ds := by
      intro ds
      induction ds with
      | nil => intro m _; rfl
      | cons y ds ih =>
        intro m hm
        simp only [fillFrom]
        rw [ih (m + 1) (by omega), if_neg (by omega)]
    simp only [fillFrom]
    rw [put_put, same ds (k + 1) (by omega), if_pos (by omega)]
  | x :: ds, k, i + 1, d, u, hd, h => by
    simp only [List.getElem?_cons_succ] at h
    have hd2 : distinctB ds = true := by
      cases x with
      | none => exact hd
      | some x => simp only [distinctB, Bool.and_eq_true] at hd; exact hd.2
    have ih := fill_put (a := a) (v := v) ds (k + 1) i d u hd2 h
    have hne : ∀ e, x = some e → d ≠ some e := by
      rintro e rfl rfl
      simp only [distinctB, Bool.and_eq_true, Bool.not_eq_true', List.contains_eq_mem, decide_eq_false_iff_not] at hd
      exact hd.1 (List.mem_of_getElem? h)
    have ex : ∀ j, (if j = k + 1 + i then u else v j) = (if j = k + (i + 1) then u else v j) := fun j => by
      rw [show k + 1 + i = k + (i + 1) by omega]
    simp only [fillFrom]
    rw [Act.put_comm _ _ _ hne, ih]
    simp only [ex]
    rw [if_neg (by omega : ¬ k = k + (i + 1))]

/-- THE LAW. -/
theorem wpAny_words {a0 : Act} {E : World → World → Prop} {I : World → Prop} (R : List (Value → World → Prop)) (F : (Nat → Value) → Act) (D : List (List Nat))
    (hF : ∀ v, fillFrom a0 v 0 (ops.toList.map (·.dst)) = F v) (hdist : distinctB (ops.toList.map (·.dst)) = true) (hdeps : depsB ops D = true) (hback : backB ops = true)
    (stab : ∀ (j : Nat) (u : Value) (w w' : World), word R j u w → I w → E w w' → word R j u w')
    (steps : AllSteps P ops Q E I R F D 0 ops.toList)
    (fin : ∀ (v : Nat → Value) (w : World), I w → allOf R v w (List.range ops.size) → Q .normal (F v) w) :
    ∀ (fuel : Nat) (listed : Array Bool) (v : Nat → Value) (w : World), I w → listed.size = ops.size → (∀ j, listed.getD j false = true → word R j (v j) w) →
      (listed.toList.count false ≤ fuel) → wpAny P .any ops Q fuel listed (F v) w := by
  intro fuel
  induction fuel with
  | zero =>
    intro listed v w hI hsz hw hc
    have hall : ∀ j, j < ops.size → listed.getD j false = true := by
      intro j hj
      have h0 : List.count false listed.toList = 0 := Nat.le_zero.1 hc
      rw [List.count_eq_zero] at h0
      have hjl : j < listed.size := by omega
      rw [Array.getD_eq_getD_getElem?, Array.getElem?_eq_getElem hjl]
      cases h : listed[j]
      · exact absurd (by rw [← h]; simp) h0
      · rfl
    refine ⟨?_, fin v w hI (allOf_of fun j hj => hw j (hall j (List.mem_range.1 hj)))⟩
    cases hr : Region.ready .any ops listed with
    | nil => rfl
    | cons i l =>
      have := (mem_ready.1 (hr ▸ List.mem_cons_self .. : i ∈ Region.ready .any ops listed))
      obtain ⟨h1, o, h2, _⟩ := this
      have hlt : i < ops.size := (Array.getElem?_eq_some_iff.1 h2).1
      have := hall i hlt
      have hil : i < listed.size := by omega
      simp [hil] at this h1
      rw [this] at h1; cases h1
  | succ fuel ih =>
    intro listed v w hI hsz hw hc
    refine ⟨?_, ?_⟩
    · intro hr
      by_cases hall : ∀ j, j < ops.size → listed.getD j false = true
      · exact fin v w hI (allOf_of fun j hj => hw j (hall j (List.mem_range.1 hj)))
      · obtain ⟨j, hj⟩ := Classical.not_forall.1 hall
        obtain ⟨hj1, hj2⟩ := Classical.not_imp.1 hj
        exact absurd hr (ready_of_left hback (j + 1) j (Nat.lt_succ_self _) hj1 hsz (by simpa using hj2))
    · intro i hi
      obtain ⟨h1, o, ho, hall⟩ := mem_ready.1 hi
      have hlt : i < ops.size := (Array.getElem?_eq_some_iff.1 ho).1
      have hil : i < listed.size := by omega
      have hol : ops.toList[i]? = some o := by rw [Array.getElem?_toList]; exact ho
      have hst := AllSteps.get steps hol
      rw [Nat.zero_add] at hst
      refine wpOp_step ho fun K' hK' => hst v w hI ?_ K' ?_
      · refine allOf_of fun j hj => hw j ?_
        simp only [depsB, List.all_eq_true, List.mem_range] at hdeps
        have := hdeps i hlt j hj
        rw [ho] at this
        obtain ⟨e, he, hb⟩ := Array.any_eq_true'.1 this
        simp only [Bool.and_eq_true, beq_iff_eq] at hb
        rw [← hb.2]
        exact hall e he hb.1
      · intro u w' hu hI' hE
        refine hK' _ _ ?_
        have hd : (ops.toList.map (·.dst))[i]? = some o.dst := by rw [List.getElem?_map, hol]; rfl
        rw [← hF, fill_put _ 0 i o.dst u hdist hd, hF]
        refine ih _ _ _ hI' (by simpa using hsz) ?_ ?_
        · intro j hj
          by_cases e : j = i
          · subst e; simpa using hu
          · have e2 : ¬ j = 0 + i := by omega
            simp only [e2, if_false]
            refine stab j (v j) w w' (hw j ?_) hI hE
            rw [getD_set_ne false (Ne.symm e)] at hj
            exact hj
        · have hfi : listed[i] = false := by simpa [hil] using h1
          have e1 : (listed.setIfInBounds i true).toList = listed.toList.set i true := by simp
          rw [e1, List.count_set (by simpa using hil)]
          have h2 : listed.toList[i]'(by simpa using hil) = false := by simpa using hfi
          have hpos : 0 < listed.toList.count false := List.count_pos_iff.2 (by rw [← h2]; exact List.getElem_mem _)
          rw [h2]
          have : ((false == false : Bool) = true) := rfl
          simp only [this, if_true]
          have e3 : ((true == false : Bool) = true) = False := by simp
          simp only [e3, if_false]
          omega
/-- THE LAW. -/
theorem wpAny_words2 {a0 : Act} {E : World → World → Prop} {I : (Nat → Bool) → World → Prop} (R : List (Value → World → Prop)) (F : (Nat → Value) → Act) (D : List (List Nat))
    (hF : ∀ v, fillFrom a0 v 0 (ops.toList.map (·.dst)) = F v) (hdist : distinctB (ops.toList.map (·.dst)) = true) (hdeps : depsB ops D = true) (hback : backB ops = true)
    (stab : ∀ (j : Nat) (u : Value) (w w' : World), word R j u w → E w w' → word R j u w')
    (steps : AllSteps2 P ops Q E I R F D 0 ops.toList)
    (fin : ∀ (v : Nat → Value) (w : World) (d : Nat → Bool), (∀ j, j < ops.size → d j = true) → I d w → allOf R v w (List.range ops.size) → Q .normal (F v) w) :
    ∀ (fuel : Nat) (listed : Array Bool) (v : Nat → Value) (w : World), I (fun j => listed.getD j false) w → listed.size = ops.size → (∀ j, listed.getD j false = true → word R j (v j) w) →
      (listed.toList.count false ≤ fuel) → wpAny P .any ops Q fuel listed (F v) w := by
  intro fuel
  induction fuel with
  | zero =>
    intro listed v w hI hsz hw hc
    have hall : ∀ j, j < ops.size → listed.getD j false = true := by
      intro j hj
      have h0 : List.count false listed.toList = 0 := Nat.le_zero.1 hc
      rw [List.count_eq_zero] at h0
      have hjl : j < listed.size := by omega
      rw [Array.getD_eq_getD_getElem?, Array.getElem?_eq_getElem hjl]
      cases h : listed[j]
      · exact absurd (by rw [← h]; simp) h0
      · rfl
    refine ⟨?_, fin v w _ hall hI (allOf_of fun j hj => hw j (hall j (List.mem_range.1 hj)))⟩
    cases hr : Region.ready .any ops listed with
    | nil => rfl
    | cons i l =>
      have := (mem_ready.1 (hr ▸ List.mem_cons_self .. : i ∈ Region.ready .any ops listed))
      obtain ⟨h1, o, h2, _⟩ := this
      have hlt : i < ops.size := (Array.getElem?_eq_some_iff.1 h2).1
      have := hall i hlt
      have hil : i < listed.size := by omega
      simp [hil] at this h1
      rw [this] at h1; cases h1
  | succ fuel ih =>
    intro listed v w hI hsz hw hc
    refine ⟨?_, ?_⟩
    · intro hr
      by_cases hall : ∀ j, j < ops.size → listed.getD j false = true
      · exact fin v w _ hall hI (allOf_of fun j hj => hw j (hall j (List.mem_range.1 hj)))
      · obtain ⟨j, hj⟩ := Classical.not_forall.1 hall
        obtain ⟨hj1, hj2⟩ := Classical.not_imp.1 hj
        exact absurd hr (ready_of_left hback (j + 1) j (Nat.lt_succ_self _) hj1 hsz (by simpa using hj2))
    · intro i hi
      obtain ⟨h1, o, ho, hall⟩ := mem_ready.1 hi
      have hlt : i < ops.size := (Array.getElem?_eq_some_iff.1 ho).1
      have hil : i < listed.size := by omega
      have hol : ops.toList[i]? = some o := by rw [Array.getElem?_toList]; exact ho
      have hst := AllSteps2.get steps hol
      rw [Nat.zero_add] at hst
      have hdl : ∀ j ∈ D.getD i [], listed.getD j false = true := by
        intro j hj
        simp only [depsB, List.all_eq_true, List.mem_range] at hdeps
        have := hdeps i hlt j hj
        rw [ho] at this
        obtain ⟨e, he, hb⟩ := Array.any_eq_true'.1 this
        simp only [Bool.and_eq_true, beq_iff_eq] at hb
        rw [← hb.2]
        exact hall e he hb.1
      refine wpOp_step ho fun K' hK' => hst _ v w (by simpa [hil] using h1) hI (allTrue_of hdl) (allOf_of fun j hj => hw j (hdl j hj)) K' ?_
      · intro u w' hu hI' hE
        refine hK' _ _ ?_
        have hd : (ops.toList.map (·.dst))[i]? = some o.dst := by rw [List.getElem?_map, hol]; rfl
        rw [← hF, fill_put _ 0 i o.dst u hdist hd, hF]
        refine ih _ _ _ ?_ (by simpa using hsz) ?_ ?_
        · have e : (fun j => (listed.setIfInBounds i true).getD j false) = fun j => if j = i then true else listed.getD j false := by
            funext j
            by_cases e : j = i
            · subst e; simp [hil]
            · rw [if_neg e, getD_set_ne false (Ne.symm e)]
          rw [e]; exact hI'
        · intro j hj
          by_cases e : j = i
          · subst e; simpa using hu
          · have e2 : ¬ j = 0 + i := by omega
            simp only [e2, if_false]
            refine stab j (v j) w w' (hw j ?_) hE
            rw [getD_set_ne false (Ne.symm e)] at hj
            exact hj
        · have hfi : listed[i] = false := by simpa [hil] using h1
          have e1 : (listed.setIfInBounds i true).toList = listed.toList.set i true := by simp
          rw [e1, List.count_set (by simpa using hil)]
          have h2 : listed.toList[i]'(by simpa using hil) = false := by simpa using hfi
          have hpos : 0 < listed.toList.count false := List.count_pos_iff.2 (by rw [← h2]; exact List.getElem_mem _)
          rw [h2]
          have : ((false == false : Bool) = true) := rfl
          simp only [this, if_true]
          have e3 : ((true == false : Bool) = true) = False := by simp
          simp only [e3, if_false]
          omega
/-- What the slots held before. -/
def oldOf (a : Act) : Nat → List (Option Tmp) → Nat → Value
  | _, [], _ => undef
  | k, d :: ds, j => if j = k then (match d with | some t => a.tmps.getD t undef | none => undef) else oldOf a (k + 1) ds j
theorem put_old (a : Act) (d : Option Tmp) : a.put d (match d with | some t => a.tmps.getD t undef | none => undef) = a := by
  cases d with
  | none => rfl
  | some d =>
    obtain ⟨t, ds⟩ := a
    simp only [Act.put]
    congr 1
    apply Array.ext
    · simp
    · intro i h1 h2
      rw [Array.getElem_setIfInBounds]
      split
      · rename_i e
        subst e
        simp [h2]
      · rfl
theorem fill_old {a : Act} : ∀ (ds : List (Option Tmp)) (k : Nat) (v : Nat → Value), (∀ j, k ≤ j → v j = oldOf a k ds j) → fillFrom a v k ds = a
  | [], _, _, _ => rfl
  | d :: ds, k, v, hv => by
    simp only [fillFrom]
    rw [fill_old ds (k + 1) v (fun j hj => by rw [hv j (by omega)]; simp only [oldOf]; rw [if_neg (by omega)])]
    have := hv k (Nat.le_refl _)
    simp only [oldOf, if_true] at this
    rw [this]
    exact put_old a d

/-- A word that tells the value. -/
def isVal (x : Value) : Value → World → Prop := fun u _ => u = x
/-- Words that stand. -/
def Stand (E : World → World → Prop) (I : World → Prop) : List (Value → World → Prop) → Prop
  | [] => True
  | r :: rs => (∀ (u : Value) (w w' : World), r u w → I w → E w w' → r u w') ∧ Stand E I rs
theorem stand_val {E : World → World → Prop} {I : World → Prop} {x : Value} : ∀ (u : Value) (w w' : World), isVal x u w → I w → E w w' → isVal x u w' := fun _ _ _ h _ _ => h
theorem Stand.get {E : World → World → Prop} {I : World → Prop} : ∀ {R : List (Value → World → Prop)}, Stand E I R → ∀ (j : Nat) (u : Value) (w w' : World), word R j u w → I w → E w w' → word R j u w'
  | [], _, _, _, _, _, _, _, _ => by simp [word]
  | r :: rs, h, 0, u, w, w', h1, h2, h3 => h.1 u w w' h1 h2 h3
  | r :: rs, h, j + 1, u, w, w', h1, h2, h3 => Stand.get h.2 j u w w' h1 h2 h3

/-- The law, at a region of a walk. -/
theorem wp_region_words {id : Nat} {a0 : Act} {w0 : World} (E : World → World → Prop) (I : World → Prop) (R : List (Value → World → Prop)) (D : List (List Nat)) (N : List Nat) {F : (Nat → Value) → Act}
    (hm : P.follows .mixedOrders = true)
    (hclosed : (distinctB (ops.toList.map (·.dst)) && depsB ops D && backB ops && N == List.range ops.size) = true)
    (hF : ∀ v, fillFrom a0 v 0 (ops.toList.map (·.dst)) = F v) 
    (stand : Stand E I R) (hI : I w0.drew)
    (steps : AllSteps P ops Q E I R F D 0 ops.toList)
    (fin : ∀ (v : Nat → Value) (w : World), I w → allOf R v w N → Q .normal (F v) w) : (Code.region id ops true).wp P Q a0 w0 := by
  simp only [Bool.and_eq_true, beq_iff_eq] at hclosed
  obtain ⟨hclosed, rfl⟩ := hclosed
  refine wp_region_any hm ?_
  have h := wpAny_words (P := P) (Q := Q) (a0 := a0) R F D hF hclosed.1.1 hclosed.1.2 hclosed.2 stand.get steps fin ops.size (Array.replicate ops.size false) (oldOf a0 0 (ops.toList.map (·.dst))) w0.drew hI (by simp)
    (fun j hj => by
      rw [Array.getD_eq_getD_getElem?, Array.getElem?_replicate] at hj
      split at hj <;> simp at hj) (by simp)
  rw [← hF, fill_old _ 0 _ (fun _ _ => rfl)] at h
  exact h
/-- The law, at a region of a walk. -/
theorem wp_region_words2 {id : Nat} {a0 : Act} {w0 : World} (E : World → World → Prop) (I : (Nat → Bool) → World → Prop) (R : List (Value → World → Prop)) (D : List (List Nat)) (N : List Nat) {F : (Nat → Value) → Act}
    (hm : P.follows .mixedOrders = true)
    (hclosed : (distinctB (ops.toList.map (·.dst)) && depsB ops D && backB ops && N == List.range ops.size) = true)
    (hF : ∀ v, fillFrom a0 v 0 (ops.toList.map (·.dst)) = F v) 
    (stand : Stand E (fun _ => True) R) (hI : I (fun _ => false) w0.drew)
    (steps : AllSteps2 P ops Q E I R F D 0 ops.toList)
    (fin : ∀ (v : Nat → Value) (w : World) (d : Nat → Bool), (∀ j, j < ops.size → d j = true) → I d w → allOf R v w N → Q .normal (F v) w) : (Code.region id ops true).wp P Q a0 w0 := by
  simp only [Bool.and_eq_true, beq_iff_eq] at hclosed
  obtain ⟨hclosed, rfl⟩ := hclosed
  refine wp_region_any hm ?_
  have h := wpAny_words2 (P := P) (Q := Q) (a0 := a0) R F D hF hclosed.1.1 hclosed.1.2 hclosed.2 (fun j u w w' h1 h2 => stand.get j u w w' h1 trivial h2) steps fin ops.size (Array.replicate ops.size false) (oldOf a0 0 (ops.toList.map (·.dst))) w0.drew (by
      have e : (fun j => (Array.replicate ops.size false).getD j false) = fun _ => false := by
        funext j
        rw [Array.getD_eq_getD_getElem?, Array.getElem?_replicate]
        split <;> rfl
      rw [e]; exact hI) (by simp)
    (fun j hj => by
      rw [Array.getD_eq_getD_getElem?, Array.getElem?_replicate] at hj
      split at hj <;> simp at hj) (by simp)
  rw [← hF, fill_old _ 0 _ (fun _ _ => rfl)] at h
  exact h
end
end Go.Proofs.Ytogkibikghbghaa.Fg
