/- What each sector may be behind a crash: plain lists. Conditions: none beyond each lemma's own hypotheses. -/
import Derived.Test.YtndcgofjhlndgaaFgDiskAlive
set_option linter.unusedVariables false
set_option linter.unusedSimpArgs false
namespace Go.Proofs.Ytndcgofjhlndgaa.Disk

/-- Each sector is one of its bytes' sectors; as it is read, the last one's. -/
structure Inv (d : Dk) (M : List (List Int)) : Prop where
  len : M.length = d.st.length
  st : ∀ (i : Nat) (l : List Int), M[i]? = some l → ∃ b ∈ l, d.st[i]? = some (sec1 b)
  pd : ∀ (i : Nat) (l : List Int), M[i]? = some l → ∀ x ∈ d.pd, x.1 = i → ∃ b ∈ l, x.2 = sec1 b
  last : ∀ (i : Nat) (l : List Int), M[i]? = some l → ∃ b, l.getLast? = some b ∧ Dk.last i (d.st.getD i noSec) d.pd = sec1 b
theorem Inv.congr {d d' : Dk} {M : List (List Int)} (h : Inv d M) (h1 : d'.st = d.st) (h2 : d'.pd = d.pd) : Inv d' M :=
  ⟨by rw [h1]; exact h.len, by rw [h1]; exact h.st, by rw [h2]; exact h.pd, by rw [h1, h2]; exact h.last⟩
theorem inv_start (n : Nat) : Inv (Dk.new n) (List.replicate n [0]) := by
  have e : sec1 0 = noSec := rfl
  refine ⟨by simp [Dk.new], fun i l hl => ?_, (fun i l hl x hx => by cases hx), fun i l hl => ?_⟩
  · rw [List.getElem?_replicate] at hl
    split at hl
    · rename_i hi
      injection hl with hl
      subst hl
      exact ⟨0, by simp, by simp [Dk.new, e, List.getElem?_replicate, hi]⟩
    · cases hl
  · rw [List.getElem?_replicate] at hl
    split at hl
    · rename_i hi
      injection hl with hl
      subst hl
      refine ⟨0, rfl, ?_⟩
      show (Dk.new n).st.getD i noSec = _
      rw [e]
      simp [Dk.new, hi]
    · cases hl
theorem Inv.put {d : Dk} {M : List (List Int)} (h : Inv d M) {i : Nat} {l : List Int} (hl : M[i]? = some l) (b : Int) (he : d.putE i = 0) : Inv (d.put i (sec1 b)) (M.set i (l ++ [b])) := by
  have hi := (List.getElem?_eq_some_iff.1 hl).1
  have ht : d.there i = true := by simp [Dk.there]; have := h.len; omega
  have ha : d.actE = 0 := by rw [Dk.putE, if_pos ht] at he; exact he
  have e : d.put i (sec1 b) = { d.act with pd := d.pd ++ [(i, sec1 b)] } := by rw [Dk.put, if_pos ht, if_pos ha]; rfl
  have hst : (d.put i (sec1 b)).st = d.st := by rw [e]; exact Dk.act_st d
  have hpd : (d.put i (sec1 b)).pd = d.pd ++ [(i, sec1 b)] := by rw [e]
  refine ⟨by rw [hst, List.length_set]; exact h.len, fun j m hm => ?_, fun j m hm x hx hxj => ?_, fun j m hm => ?_⟩
  · rw [hst]
    by_cases hj : i = j
    · subst hj
      rw [List.getElem?_set_self hi] at hm
      injection hm with hm
      subst hm
      obtain ⟨c, hc, hs⟩ := h.st i l hl
      exact ⟨c, by simp [hc], hs⟩
    · rw [List.getElem?_set_ne hj] at hm
      exact h.st j m hm
  · rw [hpd] at hx
    by_cases hj : i = j
    · subst hj
      rw [List.getElem?_set_self hi] at hm
      injection hm with hm
      subst hm
      rcases List.mem_append.1 hx with hx | hx
      · obtain ⟨c, hc, hs⟩ := h.pd i l hl x hx hxj
        exact ⟨c, by simp [hc], hs⟩
      · rw [List.mem_singleton.1 hx]
        exact ⟨b, by simp, rfl⟩
    · rw [List.getElem?_set_ne hj] at hm
      rcases List.mem_append.1 hx with hx | hx
      · exact h.pd j m hm x hx hxj
      · rw [List.mem_singleton.1 hx] at hxj
        exact absurd hxj hj
  · rw [hst, hpd, Dk.last_snoc]
    by_cases hj : i = j
    · subst hj
      rw [List.getElem?_set_self hi] at hm
      injection hm with hm
      subst hm
      exact ⟨b, by simp, if_pos rfl⟩
    · rw [List.getElem?_set_ne hj] at hm
      rw [if_neg (fun e => hj (by exact_mod_cast e))]
      exact h.last j m hm
theorem settle_all_get (i : Nat) : ∀ (l : List (Nat × List Int)) (k : Nat) (st : List (List Int)), i < st.length → (Dk.settle (fun _ => true) k st l).getD i noSec = Dk.last i (st.getD i noSec) l
  | [], _, _, _ => rfl
  | x :: r, k, st, hi => by
    rw [Dk.settle, Dk.last, if_pos rfl, settle_all_get i r (k + 1) (st.set x.1 x.2) (by simpa using hi)]
    congr 1
    by_cases hx : (x.1 : Int) = i
    · have hx' : x.1 = i := by omega
      rw [if_pos hx, hx']
      simp [hi]
    · have hx' : x.1 ≠ i := fun e => hx (by omega)
      rw [if_neg hx]
      simp [List.getElem?_set_ne hx']
theorem settle_get (f : Nat → Bool) (i : Nat) : ∀ (l : List (Nat × List Int)) (k : Nat) (st : List (List Int)) (s : List Int), (Dk.settle f k st l)[i]? = some s → st[i]? = some s ∨ ∃ x ∈ l, x.1 = i ∧ s = x.2
  | [], _, _, _, h => .inl h
  | x :: r, k, st, s, h => by
    rw [Dk.settle] at h
    rcases settle_get f i r (k + 1) _ s h with h1 | ⟨y, hy, h1⟩
    · split at h1
      · by_cases hx : x.1 = i
        · subst hx
          have hlt := (List.getElem?_eq_some_iff.1 h1).1
          rw [List.getElem?_set_self (by simpa using hlt)] at h1
          injection h1 with h1
          exact .inr ⟨x, by simp, rfl, h1.symm⟩
        · rw [List.getElem?_set_ne hx] at h1
          exact .inl h1
      · exact .inl h1
    · exact .inr ⟨y, by simp [hy], h1⟩
/-- Only the last one. -/
def lastOnly (l : List Int) : List Int := l.drop (l.length - 1)
theorem lastOnly_eq {l : List Int} {b : Int} (h : l.getLast? = some b) : lastOnly l = [b] := by
  have hne : l ≠ [] := by rintro rfl; cases h
  rw [lastOnly]
  have e := List.dropLast_concat_getLast hne
  rw [List.getLast?_eq_some_getLast hne] at h
  injection h with h
  rw [← e]
  simp [h]
theorem Inv.sync {d : Dk} {M : List (List Int)} (h : Inv d M) (he : d.actE = 0) : Inv d.sync (M.map lastOnly) := by
  have e : d.sync = { d.act with st := Dk.settle (fun _ => true) 0 d.st d.pd, pd := [] } := if_pos he
  have hst : d.sync.st = Dk.settle (fun _ => true) 0 d.st d.pd := by rw [e]
  have hpd : d.sync.pd = [] := by rw [e]
  have hl := Dk.length_settle (fun _ => true) d.pd 0 d.st
  have key : ∀ (i : Nat) (m : List Int), (M.map lastOnly)[i]? = some m → ∃ b, m = [b] ∧ i < d.st.length ∧ (Dk.settle (fun _ => true) 0 d.st d.pd).getD i noSec = sec1 b := by
    intro i m hm
    rw [List.getElem?_map] at hm
    cases hM : M[i]? with
    | none => rw [hM] at hm; cases hm
    | some l =>
      rw [hM] at hm
      obtain ⟨b, h1, h2⟩ := h.last i l hM
      have hi : i < d.st.length := by have := (List.getElem?_eq_some_iff.1 hM).1; have := h.len; omega
      injection hm with hm
      exact ⟨b, by rw [← hm, lastOnly_eq h1], hi, by rw [settle_all_get i _ _ _ hi]; exact h2⟩
  refine ⟨by rw [hst, hl, List.length_map]; exact h.len, fun i m hm => ?_, (fun i m hm x hx => by rw [hpd] at hx; cases hx), fun i m hm => ?_⟩
  · obtain ⟨b, rfl, hi, hg⟩ := key i m hm
    refine ⟨b, by simp, ?_⟩
    rw [hst, ← hg, List.getD_eq_getElem?_getD, List.getElem?_eq_getElem (by rw [hl]; exact hi)]
    rfl
  · obtain ⟨b, rfl, hi, hg⟩ := key i m hm
    refine ⟨b, rfl, ?_⟩
    rw [hst, hpd]
    exact hg
theorem Inv.crash {d : Dk} {M : List (List Int)} (h : Inv d M) (keep : List Bool) {i : Nat} {l : List Int} (hl : M[i]? = some l) : ∃ b ∈ l, (d.crash keep).read i = sec1 b ∧ (d.crash keep).sErr i = 0 := by
  have hi : i < d.st.length := by have := (List.getElem?_eq_some_iff.1 hl).1; have := h.len; omega
  have hlen := Dk.length_settle (fun k => keep.getD k false) d.pd 0 d.st
  have hi2 : i < (Dk.settle (fun k => keep.getD k false) 0 d.st d.pd).length := by rw [hlen]; exact hi
  have ht : (d.crash keep).there i = true := by
    simp only [Dk.there, Bool.and_eq_true, decide_eq_true_eq]
    exact ⟨by omega, by show (i : Int) < ((Dk.settle (fun k => keep.getD k false) 0 d.st d.pd).length : Int); omega⟩
  have hr : (d.crash keep).read i = (Dk.settle (fun k => keep.getD k false) 0 d.st d.pd)[i] := by
    rw [Dk.read, if_pos ht]
    show Dk.last i ((Dk.settle (fun k => keep.getD k false) 0 d.st d.pd).getD i noSec) [] = _
    rw [Dk.last, List.getD_eq_getElem?_getD, List.getElem?_eq_getElem hi2]
    rfl
  have hs : (d.crash keep).sErr i = 0 := if_pos ht
  rcases settle_get _ i d.pd 0 d.st _ (List.getElem?_eq_getElem hi2) with h1 | ⟨x, hx, h1, h2⟩
  · obtain ⟨b, hb, h3⟩ := h.st i l hl
    rw [h3] at h1
    injection h1 with h1
    exact ⟨b, hb, hr.trans h1.symm, hs⟩
  · obtain ⟨b, hb, h3⟩ := h.pd i l hl x hx h1
    exact ⟨b, hb, by rw [hr, h2, h3], hs⟩
end Go.Proofs.Ytndcgofjhlndgaa.Disk
