/- Slices of bytes that begin anywhere in a block of their own, appended to and cut; the words of a region in which such a one is appended to and stored. General; no conditions beyond each lemma's own hypotheses. -/
import Derived.Test.YtndcgofjhlndgaaFgPush
set_option linter.unusedVariables false
set_option linter.unusedSimpArgs false
namespace Go.Proofs.Ytndcgofjhlndgaa.Fg
open Go.RowKit

/-- A slice of bytes in block q, at some offset; its spare is there. -/
def OwnAt (w : World) (v : Value) (l : List Int) (q : Nat) : Prop := ∃ o c cur, v = .slice (some ⟨q, o, none⟩) l.length c ∧ w.heap[q]? = some (.cells cur 5 (0, 0)) ∧ l.length ≤ c ∧ c ≤ maxLen ∧ o + c ≤ cur.size ∧
  ∀ (j : Nat) (x : Int), l[j]? = some x → cur[o + j]? = some (.int .u8 x)
theorem OwnAt.same {w w' : World} {v : Value} {l : List Int} {q : Nat} (h : OwnAt w v l q) (hb : w'.heap[q]? = w.heap[q]?) : OwnAt w' v l q := by
  obtain ⟨o, c, cur, h1, h2, h3⟩ := h
  exact ⟨o, c, cur, h1, hb.trans h2, h3⟩
theorem OwnAt.lt {w : World} {v : Value} {l : List Int} {q : Nat} (h : OwnAt w v l q) : q < w.heap.size := by
  obtain ⟨o, c, cur, h1, h2, h3⟩ := h
  exact block_lt h2
theorem OwnAt.own {w : World} {v : Value} {l : List Int} {q : Nat} (h : OwnAt w v l q) : v.ownBlock = some q := by
  obtain ⟨o, c, cur, rfl, h2, h3⟩ := h
  rfl
theorem OwnAt.of_row {w : World} {base : Nat} {v : Value} {l : List Int} (h : w.ownsRow base 5 1 v l.length (bv l)) (hn : 0 < l.length) : ∃ q, OwnAt w v l q ∧ base ≤ q := by
  rcases h.2 with ⟨rfl, h0⟩ | ⟨g, c, cur, rfl, hb, hg, hc, hm, hs, ht⟩
  · omega
  · refine ⟨g, ⟨0, c, cur, rfl, hg, hc, hm, by omega, fun j x hx => ?_⟩, hb⟩
    have hj := (List.getElem?_eq_some_iff.1 hx).1
    have : (bv l)[j]? = some (.int .u8 x) := by rw [bv, List.getElem?_map, hx]; rfl
    rw [← ht, List.getElem?_take_of_lt (by omega), Array.getElem?_toList] at this
    rw [Nat.zero_add]
    exact this
theorem OwnAt.cell {w : World} {q o n c : Nat} {l : List Int} (h : OwnAt w (.slice (some ⟨q, o, none⟩) n c) l q) {j : Nat} {x : Int} (hx : l[j]? = some x) : w.cell? ⟨q, o + j, none⟩ = some (.int .u8 x) := by
  obtain ⟨o', c', cur, h1, h2, h3, h4, h5, h6⟩ := h
  injection h1 with e1 e2 e3
  injection e1 with e1
  injection e1 with _ e1
  subst e1
  rw [cell_of_block h2, h6 j x hx]
theorem OwnAt.drop {w : World} {q o n c : Nat} {l : List Int} (h : OwnAt w (.slice (some ⟨q, o, none⟩) n c) l q) (k : Nat) (hk : k ≤ l.length) : OwnAt w (.slice (some ⟨q, o + k, none⟩) (l.length - k) (c - k)) (l.drop k) q := by
  obtain ⟨o', c', cur, h1, h2, h3, h4, h5, h6⟩ := h
  injection h1 with e1 e2 e3
  injection e1 with e1
  injection e1 with _ e1
  subst e1 e3
  refine ⟨o + k, c - k, cur, by rw [List.length_drop], h2, by rw [List.length_drop]; omega, by omega, by omega, fun j x hx => ?_⟩
  rw [List.getElem?_drop] at hx
  rw [Nat.add_assoc]
  exact h6 _ x hx

section
variable {P : Program}
/-- One byte is appended. -/
theorem step_append_at {w : World} {ops : Array Oper} {o : Oper} {a : Act} {K : Act → World → Prop} {Q : Exit → Act → World → Prop} {E : Prop} (hgd : o.guard = none) (s x : Operand) (t : TypeId)
    (ho : o.op = .call { callee := .builtin .append, args := #[s, x], argTypes := #[t, t] }) (ht : P.underlying t = some (.slice 5)) (hinfo : (P.info? 5).map (fun i => (i.zero, i.size, i.bytes)) = some (some (.int .u8 0), 1, 1))
    (v : Value) (l : List Int) (q : Nat) (hs : a.eval s = v) (hown : OwnAt w v l q) (hl : l.length < 1000000)
    (ad : Addr) (b : Int) (hx : a.eval x = .slice (some ad) 1 1) (hsrc : Src w (some ad) 1 1 (bv [b]))
    (h : ∀ v' w' q', OwnAt w' v' (l ++ [b]) q' → Keep (fun k => k = q) w w' → (q' = q ∨ w.heap.size ≤ q') → K (a.put o.dst v') w') : if Region.wanted o (yielded ops a.tmps) = true then Oper.wp P o a w K Q else E := by
  have hw : Region.wanted o (yielded ops a.tmps) = true := by simp [Region.wanted, hgd]
  rw [if_pos hw]
  obtain ⟨i, hi, hzz⟩ := Option.map_eq_some_iff.1 hinfo
  simp only [Prod.mk.injEq] at hzz
  obtain ⟨hz0, hz1, hz2⟩ := hzz
  obtain ⟨off, c, cur, rfl, h2, h3, h4, h5, h6⟩ := hown
  have hnews : ∀ j u, (bv [b])[j]? = some u → w.cell? (ad.add j) = some u := hsrc.cells ad rfl
  by_cases hroom : l.length + 1 ≤ c
  · have hrun := run_append_room_cells (P := P) (w := w) t o.type 5 i ht hi q off l.length c ad 1 1 (bv [b]) (by rw [hz1]; rfl) hnews (bv_one _) hroom
      (fun j hj => by
        have hj0 : j = 0 := by simp [bv] at hj; exact hj
        rw [hz1, cell_of_block h2, Array.getElem?_eq_getElem (by omega)]
        rfl) (fun j _ => free_of_block h2 _)
    unfold Oper.wp
    simp only [execOp, ho, resolve, invoke, builtin, Sem.run_bind, Sem.run_pure, Result.andThen_ok, List.map_toArray, List.map_cons, List.map_nil, hs, hx, hrun]
    refine h _ _ q ⟨off, c, _, by simp, heap_setCells q (bv [b]) (off + l.length * i.size) w cur h2 (by rw [hz1]; simp [bv]; omega), by simp; exact hroom, h4, ?_, fun j x hx' => ?_⟩ ((Keep.refl _ _).setCells _ _ _ (fun _ => rfl)) (.inl rfl)
    · rw [hz1]
      simp [bv]
      omega
    · rw [hz1, Nat.mul_one]
      have hct : (cur.toList.take (off + l.length)).length = off + l.length := by rw [List.length_take]; simp; omega
      rw [List.getElem?_toArray]
      by_cases hj : j < l.length
      · rw [List.getElem?_append_left (by omega), List.getElem?_take_of_lt (by omega), Array.getElem?_toList]
        rw [List.getElem?_append_left hj] at hx'
        exact h6 j x hx'
      · have hj2 : j = l.length := by
          have := (List.getElem?_eq_some_iff.1 hx').1
          simp at this
          omega
        subst hj2
        rw [List.getElem?_append_right (by omega), hct, Nat.sub_self]
        simp at hx'
        rw [hx']
        rfl
  · obtain ⟨v', w', hrun, ho', hg⟩ := run_append_arg_grows (P := P) (w := w) t o.type 5 i (.int .u8 0) 1 1 ht hi hz0 hz1 hz2 rfl (by decide) ⟨q, off, none⟩ l.length c (bv l) (by simp [bv]) (fun j u hu => by
        rw [Addr.add_lit, cell_of_block h2]
        rw [bv, List.getElem?_map] at hu
        cases hlj : l[j]? with
        | none => rw [hlj] at hu; cases hu
        | some y =>
          rw [hlj] at hu
          rw [h6 j y hlj]
          exact hu) ad 1 1 (bv [b]) rfl hnews (by omega) (by simp only [maxLen]; omega) (by omega)
    unfold Oper.wp
    simp only [execOp, ho, resolve, invoke, builtin, Sem.run_bind, Sem.run_pure, Result.andThen_ok, List.map_toArray, List.map_cons, List.map_nil, hs, hx, hrun]
    have e : bv l ++ bv [b] = bv (l ++ [b]) := by rw [bv_append]
    rw [e] at ho'
    obtain ⟨q', hq, hqb⟩ := OwnAt.of_row (l := l ++ [b]) (by simpa using ho') (by simp)
    exact h v' w' q' hq (Keep.mono (Keep.of_grown hg) (fun i _ hi => by cases hi)) (.inr hqb)
end

/-- The appended slice. -/
def PushW2 (B q : Nat) (l : List Int) (u : Value) (w : World) : Prop := ∃ q', OwnAt w u l q' ∧ (q' = q ∨ B ≤ q')
def PushD2 (B g j : Nat) (T : TypeId) (cs : Array Value) (q : Nat) (l : List Int) (u : Value) (w : World) : Prop := ∃ v', PushW2 B q l v' w ∧ w.heap[g]? = some (.cells (cs.setIfInBounds j v') T (0, 0))
def PushI2 (w2 : World) (g q : Nat) (v : Value) (l : List Int) (kp ks : Nat) (d : Nat → Bool) (w : World) : Prop :=
  Keep (fun b => b = q ∨ b = g) w2 w ∧ (d kp = false → OwnAt w v l q) ∧ (d ks = false → w.heap[g]? = w2.heap[g]?)
def PushE2 (g j q : Nat) (ka kp ks : Nat) (k : Nat) (w w' : World) : Prop :=
  if k = ka then ∃ o, w' = w.alloc o else if k = kp then Keep (fun b => b = q) w w' else if k = ks then ∃ v, w' = w.setCell ⟨g, j, none⟩ v else w' = w
section
variable {w2 w w' : World} {g j q n : Nat} {v : Value} {l news : List Int} {ka kp ks : Nat} {T : TypeId} {cs : Array Value} {d : Nat → Bool} {D : List (List Nat)} {ns : List Value}
theorem PushE2.keep {k : Nat} (h : PushE2 g j q ka kp ks k w w') : Keep (fun b => b = q ∨ b = g) w w' := by
  unfold PushE2 at h
  split at h
  · obtain ⟨o, rfl⟩ := h; exact (Keep.refl _ _).alloc _
  · split at h
    · exact h.mono fun i _ hi => .inl hi
    · split at h
      · obtain ⟨v, rfl⟩ := h; exact (Keep.refl _ _).setCell _ _ (fun _ => .inr rfl)
      · subst h; exact Keep.refl _ _
theorem litAt_stand2 (hg : g < w2.heap.size) (hv : q < w2.heap.size) {p : Nat} : ∀ (k : Nat) (u : Value) (w w' : World), k ≠ p → k ∉ D.getD p [] → LitAt w2.heap.size n ns u w → PushE2 g j q ka kp ks k w w' → LitAt w2.heap.size n ns u w' := by
  rintro k u w w' - - ⟨p, rfl, hp, hs⟩ hE
  refine ⟨p, rfl, hp, hs.keep hE.keep (fun ad had => ?_)⟩
  injection had with had
  subst had
  rintro (h | h) <;> simp only at h <;> omega
theorem pushW2_stand (hne : q ≠ g) (hg : g < w2.heap.size) {p : Nat} (hq : kp = p) : ∀ (k : Nat) (u : Value) (w w' : World), k ≠ p → k ∉ D.getD p [] → PushW2 w2.heap.size q l u w → PushE2 g j q ka kp ks k w w' → PushW2 w2.heap.size q l u w' := by
  subst hq
  rintro k u w w' hk - ⟨q', h1, h2⟩ hE
  have hu : q' ≠ g := by omega
  refine ⟨q', ?_, h2⟩
  unfold PushE2 at hE
  split at hE
  · obtain ⟨o, rfl⟩ := hE; exact h1.same (heap_alloc_old _ _ h1.lt)
  · split at hE
    · obtain ⟨v, rfl⟩ := hE; exact h1.same (hset_other _ _ _ hu)
    · subst hE; exact h1
theorem pushD2_stand (hne : q ≠ g) (hg : g < w2.heap.size) {p : Nat} (hq : ks = p) (hkp : kp ∈ D.getD p []) : ∀ (k : Nat) (u : Value) (w w' : World), k ≠ p → k ∉ D.getD p [] → PushD2 w2.heap.size g j T cs q l u w → PushE2 g j q ka kp ks k w w' → PushD2 w2.heap.size g j T cs q l u w' := by
  subst hq
  rintro k u w w' hk hkD ⟨v', ⟨q', h1, h2⟩, h3⟩ hE
  have hkp' : k ≠ kp := fun e => hkD (e ▸ hkp)
  unfold PushE2 at hE
  split at hE
  · obtain ⟨o, rfl⟩ := hE; exact ⟨v', ⟨q', h1.same (heap_alloc_old _ _ h1.lt), h2⟩, (heap_alloc_old _ _ (block_lt h3)).trans h3⟩
  · subst hE
    exact ⟨v', ⟨q', h1, h2⟩, h3⟩
theorem pushI2_start (ho : OwnAt w2 v l q) : PushI2 w2 g q v l kp ks (fun _ => false) w2.drew := ⟨(Keep.refl _ _).drew, fun _ => ho, fun _ => rfl⟩
theorem PushI2.cell (h : PushI2 w2 g q v l kp ks d w) (hd : d ks = false) (hc : w2.heap[g]? = some (.cells cs T (0, 0))) (i : Nat) : w.cell? ⟨g, i, none⟩ = cs[i]? := cell_of_block ((h.2.2 hd).trans hc) i
theorem PushI2.old (h : PushI2 w2 g q v l kp ks d w) {b : Nat} {o : Obj} (hb : w2.heap[b]? = some o) (hne : ¬ (b = q ∨ b = g)) : w.heap[b]? = some o := (h.1.block b (block_lt hb) hne).trans hb
theorem PushI2.alloc {k : Nat} (h : PushI2 w2 g q v l kp ks d w) (hg : g < w2.heap.size) (o : Obj) (h1 : kp ≠ k) (h2 : ks ≠ k) : PushI2 w2 g q v l kp ks (fun j => if j = k then true else d j) (w.alloc o) := by
  refine ⟨h.1.alloc o, fun hd => ?_, fun hd => ?_⟩
  · simp only [h1, if_false] at hd; exact (h.2.1 hd).same (heap_alloc_old _ _ (h.2.1 hd).lt)
  · simp only [h2, if_false] at hd; exact (heap_alloc_old _ _ (Nat.lt_of_lt_of_le hg h.1.size)).trans (h.2.2 hd)
theorem PushI2.app {k : Nat} (h : PushI2 w2 g q v l kp ks d w) (hk : kp = k) (hs : ks ≠ k) (hne : q ≠ g) (hg : g < w2.heap.size) (hgr : Keep (fun b => b = q) w w') : PushI2 w2 g q v l kp ks (fun j => if j = k then true else d j) w' := by
  subst hk
  refine ⟨h.1.trans hgr (fun i _ hi => .inl hi), fun hd => by simp at hd, fun hd => ?_⟩
  simp only [hs, if_false] at hd
  exact (hgr.block g (Nat.lt_of_lt_of_le hg h.1.size) (fun e => hne e.symm)).trans (h.2.2 hd)
theorem PushI2.set {k : Nat} (h : PushI2 w2 g q v l kp ks d w) (hs : ks = k) (hkp : d kp = true) (hne : kp ≠ k) (u : Value) : PushI2 w2 g q v l kp ks (fun j => if j = k then true else d j) (w.setCell ⟨g, j, none⟩ u) := by
  subst hs
  refine ⟨h.1.setCell _ _ (fun _ => .inr rfl), fun hd => ?_, fun hd => by simp at hd⟩
  simp only [hne, if_false, hkp] at hd
  cases hd
theorem pushW2_at {v' : Value} {q' : Nat} (hB : w2.heap.size ≤ w.heap.size) (ho : OwnAt w' v' l q') (hat : q' = q ∨ w.heap.size ≤ q') : PushW2 w2.heap.size q l v' w' := ⟨q', ho, hat.imp id (fun h => by omega)⟩
theorem pushD2_at {v' : Value} (h : PushW2 w2.heap.size q l v' w) (hne : q ≠ g) (hg : g < w2.heap.size) (hc : w.heap[g]? = some (.cells cs T (0, 0))) (u : Value) : PushD2 w2.heap.size g j T cs q l u (w.setCell ⟨g, j, none⟩ v') := by
  obtain ⟨q', h1, h2⟩ := h
  exact ⟨v', ⟨q', h1.same (hset_other _ _ _ (by show q' ≠ g; omega)), h2⟩, hset_at w g j v' hc⟩
end
end Go.Proofs.Ytndcgofjhlndgaa.Fg
