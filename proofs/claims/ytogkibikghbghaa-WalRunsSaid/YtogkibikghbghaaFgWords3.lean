/- A law for regions that draw their order: each operation has a word of its own and an effect of its own. General; no conditions beyond the lemma's own hypotheses. -/
import Derived.Test.YtogkibikghbghaaFgWords
set_option linter.unusedVariables false
namespace Go.Proofs.Ytogkibikghbghaa.Fg
open Go.RowKit

section
variable {P : Program} {ops : Array Oper} {Q : Exit → Act → World → Prop}

/-- One operation's own step; the invariant may know what is done, the effect is the operation's own. -/
def OneStep3 (P : Program) (ops : Array Oper) (Q : Exit → Act → World → Prop) (E : Nat → World → World → Prop) (I : (Nat → Bool) → World → Prop) (R : List (Value → World → Prop)) (F : (Nat → Value) → Act) (D : List (List Nat)) (k : Nat) (o : Oper) : Prop :=
  ∀ (d : Nat → Bool) (v : Nat → Value) (w : World), d k = false → I d w → allTrue d (D.getD k []) → (∀ j, d j = true → ∀ x ∈ D.getD j [], d x = true) → allOf R v w (D.getD k []) → ∀ K : Act → World → Prop, (∀ u w', word R k u w' → I (fun j => if j = k then true else d j) w' → E k w w' → K ((F v).put o.dst u) w') →
    if Region.wanted o (yielded ops (F v).tmps) = true then Oper.wp P o (F v) w K Q else K ((F v).put o.dst undef) w
def AllSteps3 (P : Program) (ops : Array Oper) (Q : Exit → Act → World → Prop) (E : Nat → World → World → Prop) (I : (Nat → Bool) → World → Prop) (R : List (Value → World → Prop)) (F : (Nat → Value) → Act) (D : List (List Nat)) : Nat → List Oper → Prop
  | _, [] => True
  | k, o :: os => OneStep3 P ops Q E I R F D k o ∧ AllSteps3 P ops Q E I R F D (k + 1) os
theorem AllSteps3.get {E : Nat → World → World → Prop} {I : (Nat → Bool) → World → Prop} {R : List (Value → World → Prop)} {F : (Nat → Value) → Act} {D : List (List Nat)} :
    ∀ {os : List Oper} {k i : Nat} {o : Oper}, AllSteps3 P ops Q E I R F D k os → os[i]? = some o → OneStep3 P ops Q E I R F D (k + i) o
  | [], _, _, _, _, h => by simp at h
  | x :: os, k, 0, o, hs, h => by
    simp only [List.getElem?_cons_zero, Option.some.injEq] at h
    subst h
    exact hs.1
  | x :: os, k, i + 1, o, hs, h => by
    simp only [List.getElem?_cons_succ] at h
    have := AllSteps3.get hs.2 h
    rw [show k + 1 + i = k + (i + 1) by omega] at this
    exact this
/-- Words that stand under what other operations do that need not come before. -/
def Stand3 (E : Nat → World → World → Prop) (D : List (List Nat)) : Nat → List (Value → World → Prop) → Prop
  | _, [] => True
  | j, r :: rs => (∀ (k : Nat) (u : Value) (w w' : World), k ≠ j → k ∉ D.getD j [] → r u w → E k w w' → r u w') ∧ Stand3 E D (j + 1) rs
theorem stand3_val {E : Nat → World → World → Prop} {D : List (List Nat)} {j : Nat} {x : Value} : ∀ (k : Nat) (u : Value) (w w' : World), k ≠ j → k ∉ D.getD j [] → isVal x u w → E k w w' → isVal x u w' := fun _ _ _ _ _ _ h _ => h
theorem Stand3.get {E : Nat → World → World → Prop} {D : List (List Nat)} : ∀ {R : List (Value → World → Prop)} {m : Nat}, Stand3 E D m R → ∀ (j k : Nat) (u : Value) (w w' : World), k ≠ m + j → k ∉ D.getD (m + j) [] → word R j u w → E k w w' → word R j u w'
  | [], _, _, _, _, _, _, _, _, _, _, _ => by simp [word]
  | r :: rs, m, h, 0, k, u, w, w', h1, h2, h3, h4 => h.1 k u w w' h1 h2 h3 h4
  | r :: rs, m, h, j + 1, k, u, w, w', h1, h2, h3, h4 => Stand3.get h.2 j k u w w' (by omega) (by rw [show m + 1 + j = m + (j + 1) by omega]; exact h2) h3 h4

/-- THE LAW. -/
theorem wpAny_words3 {a0 : Act} {E : Nat → World → World → Prop} {I : (Nat → Bool) → World → Prop} (R : List (Value → World → Prop)) (F : (Nat → Value) → Act) (D : List (List Nat))
    (hF : ∀ v, fillFrom a0 v 0 (ops.toList.map (·.dst)) = F v) (hdist : distinctB (ops.toList.map (·.dst)) = true) (hdeps : depsB ops D = true) (hback : backB ops = true)
    (stab : ∀ (j k : Nat) (u : Value) (w w' : World), k ≠ j → k ∉ D.getD j [] → word R j u w → E k w w' → word R j u w')
    (steps : AllSteps3 P ops Q E I R F D 0 ops.toList)
    (fin : ∀ (v : Nat → Value) (w : World) (d : Nat → Bool), (∀ j, j < ops.size → d j = true) → I d w → allOf R v w (List.range ops.size) → Q .normal (F v) w) :
    ∀ (fuel : Nat) (listed : Array Bool) (v : Nat → Value) (w : World), I (fun j => listed.getD j false) w → listed.size = ops.size → (∀ j, listed.getD j false = true → word R j (v j) w) →
      (∀ j, listed.getD j false = true → ∀ x ∈ D.getD j [], listed.getD x false = true) → (listed.toList.count false ≤ fuel) → wpAny P .any ops Q fuel listed (F v) w := by
  intro fuel
  induction fuel with
  | zero =>
    intro listed v w hI hsz hw hcl hc
    have hall : ∀ j, j < ops.size → listed.getD j false = true := by
      intro j hj
      have h0 : List.count false listed.toList = 0 := Nat.le_zero.1 hc
      rw [List.count_eq_zero] at h0
      have hjl : j < listed.size := by omega
      rw [Array.getD_eq_getD_getElem?, Array.getElem?_eq_getElem hjl]
      cases h : listed[j]
      · exact absurd (by rw [← h]; simp) h0
      · rfl
    refine ⟨?_, fin v w _ hall hI (allOf_of fun j hj => hw j (hall j (List.mem_range.1 hj)))⟩
    cases hr : Region.ready .any ops listed with
    | nil => rfl
    | cons i l =>
      have := (mem_ready.1 (hr ▸ List.mem_cons_self .. : i ∈ Region.ready .any ops listed))
      obtain ⟨h1, o, h2, _⟩ := this
      have hlt : i < ops.size := (Array.getElem?_eq_some_iff.1 h2).1
      have := hall i hlt
      have hil : i < listed.size := by omega
      simp [hil] at this h1
      rw [this] at h1; cases h1
  | succ fuel ih =>
    intro listed v w hI hsz hw hcl hc
    refine ⟨?_, ?_⟩
    · intro hr
      by_cases hall : ∀ j, j < ops.size → listed.getD j false = true
      · exact fin v w _ hall hI (allOf_of fun j hj => hw j (hall j (List.mem_range.1 hj)))
      · obtain ⟨j, hj⟩ := Classical.not_forall.1 hall
        obtain ⟨hj1, hj2⟩ := Classical.not_imp.1 hj
        exact absurd hr (ready_of_left hback (j + 1) j (Nat.lt_succ_self _) hj1 hsz (by simpa using hj2))
    · intro i hi
      obtain ⟨h1, o, ho, hall⟩ := mem_ready.1 hi
      have hlt : i < ops.size := (Array.getElem?_eq_some_iff.1 ho).1
      have hil : i < listed.size := by omega
      have hol : ops.toList[i]? = some o := by rw [Array.getElem?_toList]; exact ho
      have hst := AllSteps3.get steps hol
      rw [Nat.zero_add] at hst
      have hdl : ∀ j ∈ D.getD i [], listed.getD j false = true := by
        intro j hj
        simp only [depsB, List.all_eq_true, List.mem_range] at hdeps
        have := hdeps i hlt j hj
        rw [ho] at this
        obtain ⟨e, he, hb⟩ := Array.any_eq_true'.1 this
        simp only [Bool.and_eq_true, beq_iff_eq] at hb
        rw [← hb.2]
        exact hall e he hb.1
      have hin : listed.getD i false = false := by simpa [hil] using h1
      refine wpOp_step ho fun K' hK' => hst _ v w (by simpa [hil] using h1) hI (allTrue_of hdl) hcl (allOf_of fun j hj => hw j (hdl j hj)) K' ?_
      · intro u w' hu hI' hE
        refine hK' _ _ ?_
        have hd : (ops.toList.map (·.dst))[i]? = some o.dst := by rw [List.getElem?_map, hol]; rfl
        rw [← hF, fill_put _ 0 i o.dst u hdist hd, hF]
        refine ih _ _ _ ?_ (by simpa using hsz) ?_ ?_ ?_
        · have e : (fun j => (listed.setIfInBounds i true).getD j false) = fun j => if j = i then true else listed.getD j false := by
            funext j
            by_cases e : j = i
            · subst e; simp [hil]
            · rw [if_neg e, getD_set_ne false (Ne.symm e)]
          rw [e]; exact hI'
        · intro j hj
          by_cases e : j = i
          · subst e; simpa using hu
          · have e2 : ¬ j = 0 + i := by omega
            simp only [e2, if_false]
            rw [getD_set_ne false (Ne.symm e)] at hj
            refine stab j i (v j) w w' (Ne.symm e) (fun hm => ?_) (hw j hj) hE
            rw [hcl j hj i hm] at hin
            cases hin
        · intro j hj x hx
          by_cases ex : x = i
          · subst ex; simp [hil]
          · rw [getD_set_ne false (Ne.symm ex)]
            by_cases e : j = i
            · subst e; exact hdl x hx
            · rw [getD_set_ne false (Ne.symm e)] at hj
              exact hcl j hj x hx
        · have hfi : listed[i] = false := by simpa [hil] using h1
          have e1 : (listed.setIfInBounds i true).toList = listed.toList.set i true := by simp
          rw [e1, List.count_set (by simpa using hil)]
          have h2 : listed.toList[i]'(by simpa using hil) = false := by simpa using hfi
          have hpos : 0 < listed.toList.count false := List.count_pos_iff.2 (by rw [← h2]; exact List.getElem_mem _)
          rw [h2]
          have : ((false == false : Bool) = true) := rfl
          simp only [this, if_true]
          have e3 : ((true == false : Bool) = true) = False := by simp
          simp only [e3, if_false]
          omega
/-- The law, at a region of a walk. -/
theorem wp_region_words3 {id : Nat} {a0 : Act} {w0 : World} (E : Nat → World → World → Prop) (I : (Nat → Bool) → World → Prop) (R : List (Value → World → Prop)) (D : List (List Nat)) (N : List Nat) {F : (Nat → Value) → Act}
    (hm : P.follows .mixedOrders = true)
    (hclosed : (distinctB (ops.toList.map (·.dst)) && depsB ops D && backB ops && N == List.range ops.size) = true)
    (hF : ∀ v, fillFrom a0 v 0 (ops.toList.map (·.dst)) = F v)
    (stand : Stand3 E D 0 R) (hI : I (fun _ => false) w0.drew)
    (steps : AllSteps3 P ops Q E I R F D 0 ops.toList)
    (fin : ∀ (v : Nat → Value) (w : World) (d : Nat → Bool), (∀ j, j < ops.size → d j = true) → I d w → allOf R v w N → Q .normal (F v) w) : (Code.region id ops true).wp P Q a0 w0 := by
  simp only [Bool.and_eq_true, beq_iff_eq] at hclosed
  obtain ⟨hclosed, rfl⟩ := hclosed
  refine wp_region_any hm ?_
  have h := wpAny_words3 (P := P) (Q := Q) (a0 := a0) R F D hF hclosed.1.1 hclosed.1.2 hclosed.2 (fun j k u w w' h0 h1 h2 h3 => stand.get j k u w w' (by omega) (by rw [Nat.zero_add]; exact h1) h2 h3) steps fin ops.size (Array.replicate ops.size false) (oldOf a0 0 (ops.toList.map (·.dst))) w0.drew (by
      have e : (fun j => (Array.replicate ops.size false).getD j false) = fun _ => false := by
        funext j
        rw [Array.getD_eq_getD_getElem?, Array.getElem?_replicate]
        split <;> rfl
      rw [e]; exact hI) (by simp)
    (fun j hj => by
      rw [Array.getD_eq_getD_getElem?, Array.getElem?_replicate] at hj
      split at hj <;> simp at hj) (fun j hj => by
      rw [Array.getD_eq_getD_getElem?, Array.getElem?_replicate] at hj
      split at hj <;> simp at hj) (by simp)
  rw [← hF, fill_old _ 0 _ (fun _ _ => rfl)] at h
  exact h
end
end Go.Proofs.Ytogkibikghbghaa.Fg
