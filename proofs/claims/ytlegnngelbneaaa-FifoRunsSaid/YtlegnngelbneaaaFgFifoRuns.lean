/- What holds between the rounds of the law FifoRuns of floodgate's fifo layer: the line and the document's line side by side. Conditions: none beyond each lemma's own hypotheses. -/
import Derived.Test.YtlegnngelbneaaaFgRef19
import Derived.Deep.LoopGhost
import Derived.Deep.DeepCutAuto
import Derived.Deep.CutBlock
namespace Go.Proofs.Ytlegnngelbneaaa.Fifo
open Go.RowKit Go.Proofs.Ytlegnngelbneaaa.Fg Go.ChangeShapes Go.WideShapes Go.ChangeAt

theorem RdF.avoid {B : Nat} {w w' : World} {x : Value} {l : List Int} {S : Nat → Prop} (h : RdF B w x l) (hk : Keep S w w') (hx : ∀ k, x.ownBlock = some k → ¬ S k) : RdF B w' x l := by
  obtain ⟨A, c, rfl, h2, h3⟩ := h
  have hbl : l ≠ [] → bv l ≠ [] := fun h e => h (by simpa [bv] using e)
  have key : l ≠ [] → ∀ ad, A = some ad → w'.heap[ad.block]? = w.heap[ad.block]? := fun hne ad had => by
    subst had
    exact hk.block _ (h2.lt rfl (hbl hne)) (hx _ rfl)
  refine ⟨A, c, rfl, h2.same (fun ad had hne => key (fun e => hne (by rw [e]; rfl)) ad had), fun hne ad had => ?_⟩
  rcases h3 hne ad had with h4 | ⟨cs, fr, h4⟩
  · exact .inl h4
  · exact .inr ⟨cs, fr, (key hne ad had).trans h4⟩
theorem RdF.up {B s : Nat} {w : World} {x : Value} {l : List Int} (h : RdF s w x l) (hx : ∀ k, x.ownBlock = some k → s ≤ k) : RdF B w x l := by
  obtain ⟨A, c, rfl, h2, h3⟩ := h
  refine ⟨A, c, rfl, h2, fun hne ad had => ?_⟩
  rcases h3 hne ad had with h4 | h4
  · subst had
    have := hx _ rfl
    omega
  · exact .inr h4

/-- The line (ls) and the document's line (ms), in their memory. -/
structure RunInv (B g lb wb cap : Nat) (W : World) (ls ms : List (List Int)) (F : Nat → Prop) (vs : List Value) (A : Option Addr) (c : Nat) (w : World) : Prop where
  q : IsQ w g lb cap ls F
  new : ∀ k, F k → B ≤ k
  size : B ≤ W.heap.size
  below : Below B W w
  wq : w.heap[wb]? = some (.cells #[.int .i64 cap, .slice A ms.length c] 38 (0, 0))
  wnew : B ≤ wb
  wne : ¬ F wb
  rows : Rows B w (.slice A ms.length c) vs ms
  rlt : ∀ x ∈ vs, ∀ k, x.ownBlock = some k → k < w.heap.size
  rne : ∀ k, (Value.slice A ms.length c).ownBlock = some k → k ≠ wb ∧ k ≠ g ∧ k ≠ lb
  small : ∀ l ∈ ms, l.length ≤ 2000
section
variable {B g lb wb cap : Nat} {W : World} {ls ms : List (List Int)} {F : Nat → Prop} {vs : List Value} {A : Option Addr} {c : Nat} {w : World}
theorem RunInv.base (h : RunInv B g lb wb cap W ls ms F vs A c w) : B ≤ w.heap.size := by have := h.below.size; have := h.size; omega
theorem RunInv.wtype (h : RunInv B g lb wb cap W ls ms F vs A c w) : ∀ k, k = wb → B ≤ k ∧ ∃ cs t fr, w.heap[k]? = some (.cells cs t fr) ∧ t ≠ 5 := by
  rintro k rfl
  exact ⟨h.wnew, _, _, _, h.wq, by decide⟩
/-- Where blocks that none of it lies in change. -/
theorem RunInv.avoid {S : Nat → Prop} {w' : World} (h : RunInv B g lb wb cap W ls ms F vs A c w) (hk : Keep S w w') (hB : ∀ k, S k → B ≤ k) (hF : ∀ k, F k → ¬ S k) (hw : ¬ S wb)
    (hv : ∀ k, (Value.slice A ms.length c).ownBlock = some k → ¬ S k) (hx : ∀ x ∈ vs, ∀ k, x.ownBlock = some k → ¬ S k) : RunInv B g lb wb cap W ls ms F vs A c w' :=
  ⟨h.q.keep hk hF, h.new, h.size, h.below.trans (hk.below h.base hB), (hk.block _ (block_lt h.wq) hw).trans h.wq, h.wnew, h.wne,
    ⟨own_keep h.rows.own hk hv, fun j x l hx' hl => (h.rows.each j x l hx' hl).avoid hk (hx x (List.mem_of_getElem? hx'))⟩,
    fun x hx' k hk' => Nat.lt_of_lt_of_le (h.rlt x hx' k hk') hk.size, h.rne, h.small⟩
theorem RunInv.ext {w' : World} (h : RunInv B g lb wb cap W ls ms F vs A c w) (hk : Keep (fun _ => False) w w') : RunInv B g lb wb cap W ls ms F vs A c w' :=
  h.avoid hk (fun _ h => h.elim) (fun _ _ h => h) (fun h => h) (fun _ _ h => h) (fun _ _ _ _ h => h)
/-- Behind a call that changes the line alone. -/
theorem RunInv.queue {w' : World} {ls' : List (List Int)} {F' : Nat → Prop} (h : RunInv B g lb wb cap W ls ms F vs A c w) (hq : IsQ w' g lb cap ls' F') (hk : Keep (fun k => k = g ∨ k = lb) w w') (hF : ∀ k, F' k → F k ∨ w.heap.size ≤ k) :
    RunInv B g lb wb cap W ls' ms F' vs A c w' := by
  have hB := h.base
  have hwl := block_lt h.wq
  refine ⟨hq, fun k hk' => ?_, h.size, h.below.trans (hk.below hB (fun i hi => h.new i (h.q.in_F hi))), (hk.block _ hwl (fun hi => h.wne (h.q.in_F hi))).trans h.wq, h.wnew, fun hw => ?_,
    h.rows.keep hk hB (h.q.type h.new) (fun k hk' hi => by have := h.rne k hk'; omega), fun x hx' k hk' => Nat.lt_of_lt_of_le (h.rlt x hx' k hk') hk.size, h.rne, h.small⟩
  · rcases hF k hk' with h4 | h4
    · exact h.new k h4
    · omega
  · rcases hF _ hw with h4 | h4
    · exact h.wne h4
    · omega
/-- The document's line is another, in its variable. -/
theorem RunInv.setw {w2 : World} {o : Obj} {ms' : List (List Int)} {vs' : List Value} {A' : Option Addr} {c' : Nat} (h : RunInv B g lb wb cap W ls ms F vs A c w) (kb : Below w.heap.size w w2)
    (hown : w2.ownsRow B 27 1 (.slice A' ms'.length c') ms'.length vs') (hne : ∀ k, (Value.slice A' ms'.length c').ownBlock = some k → k ≠ wb ∧ k ≠ g ∧ k ≠ lb)
    (heach : ∀ (j : Nat) (x : Value) (l : List Int), vs'[j]? = some x → ms'[j]? = some l → (x ∈ vs ∧ RdF B w x l) ∨ (RdF w.heap.size w2 x l ∧ ∀ k, x.ownBlock = some k → w.heap.size ≤ k ∧ k < w2.heap.size)) (hsm : ∀ l ∈ ms', l.length ≤ 2000) :
    RunInv B g lb wb cap W ls ms' F vs' A' c' (((w2.alloc o).setCell ⟨wb, 0, none⟩ (.int .i64 cap)).setCell ⟨wb, 1, none⟩ (.slice A' ms'.length c')) := by
  have hB := h.base
  have hwl := block_lt h.wq
  have hs2 := kb.size
  have k2 : Keep (fun k => k = wb) w2 (((w2.alloc o).setCell ⟨wb, 0, none⟩ (.int .i64 cap)).setCell ⟨wb, 1, none⟩ (.slice A' ms'.length c')) :=
    (((Keep.refl (fun k => k = wb) w2).alloc o).setCell ⟨wb, 0, none⟩ _ (fun _ => rfl)).setCell ⟨wb, 1, none⟩ _ (fun _ => rfl)
  have kf : Keep (fun k => k = wb) w (((w2.alloc o).setCell ⟨wb, 0, none⟩ (.int .i64 cap)).setCell ⟨wb, 1, none⟩ (.slice A' ms'.length c')) := (Keep.of_new (S := fun k => k = wb) kb).trans k2 (fun _ _ h => h)
  have hw2 : w2.heap[wb]? = some (.cells #[.int .i64 cap, .slice A ms.length c] 38 (0, 0)) := (kb.block _ hwl).trans h.wq
  have hlen : vs'.length = ms'.length := by have := hown.1; omega
  refine ⟨h.q.keep kf (fun k hF e => h.wne (e ▸ hF)), h.new, h.size, h.below.trans (kf.below hB (fun i e => e ▸ h.wnew)), ?_, h.wnew, h.wne, ⟨?_, fun j x l hx hl => ?_⟩, fun x hx k hk => ?_, hne, hsm⟩
  · have e1 : (w2.alloc o).heap[wb]? = some (.cells #[.int .i64 cap, .slice A ms.length c] 38 (0, 0)) := (heap_alloc_old _ _ (by omega)).trans hw2
    exact hset_at _ _ _ _ (hset_at _ _ _ _ e1)
  · exact own_keep hown k2 (fun k hk e => (hne k hk).1 e)
  · rcases heach j x l hx hl with ⟨_, h4⟩ | ⟨h4, h5⟩
    · exact h4.keep kf hB h.wtype
    · refine (h4.up (fun k hk => (h5 k hk).1)).keep k2 (by omega) (fun k hk => ?_)
      subst hk
      exact ⟨h.wnew, _, _, _, hw2, by decide⟩
  · obtain ⟨j, hj, rfl⟩ := List.mem_iff_getElem.1 hx
    have hs3 := k2.size
    rcases heach j _ _ (List.getElem?_eq_getElem hj) (List.getElem?_eq_getElem (by omega : j < ms'.length)) with ⟨h4, _⟩ | ⟨_, h5⟩
    · have := h.rlt _ h4 k hk; omega
    · have := (h5 k hk).2; omega
/-- The document's line is set to nothing. -/
theorem RunInv.clear (h : RunInv B g lb wb cap W ls ms F vs A c w) : RunInv B g lb wb cap W ls [] F [] none 0 (w.setCell ⟨wb, 1, none⟩ (.slice none 0 0)) := by
  have hB := h.base
  have k2 : Keep (fun k => k = wb) w (w.setCell ⟨wb, 1, none⟩ (.slice none 0 0)) := (Keep.refl (fun k => k = wb) w).setCell ⟨wb, 1, none⟩ _ (fun _ => rfl)
  exact ⟨h.q.keep k2 (fun k hF e => h.wne (e ▸ hF)), h.new, h.size, h.below.trans (k2.below hB (fun i e => e ▸ h.wnew)), hset_at _ _ _ _ h.wq, h.wnew, h.wne,
    ⟨World.ownsRow_nil _ _ _ _, (fun j x l hx => by simp at hx)⟩, (fun x hx => by cases hx), (fun k hk => by cases hk), (fun l hl => by cases hl)⟩
end

/-- A row of bytes whose numbers are written over, one after the other. -/
structure Incs (A : Option Addr) (n : Nat) (w w' : World) : Prop where
  keep : Keep (fun k => ∃ ad, A = some ad ∧ k = ad.block) w w'
  cells : ∀ ad, A = some ad → ∃ g cs, ad = ⟨g, 0, none⟩ ∧ w'.heap[g]? = some (.cells cs 5 (0, 0)) ∧ ∀ j : Nat, j < n → ∃ x : Int, cs[j]? = some (.int .u8 x)
  nil : A = none → n = 0
theorem Incs.start {w : World} {base n c : Nat} {A : Option Addr} {l : List Int} (h : w.ownsRow base 5 1 (.slice A n c) n (bv l)) : Incs A n w w := by
  refine ⟨Keep.refl _ _, fun ad had => ?_, fun hA => ?_⟩
  · subst had
    obtain ⟨hl, h2⟩ := h
    rcases h2 with ⟨h2, _⟩ | ⟨g, cap, cur, h2, _, hh, hc1, hc2, hc3, hc4⟩
    · cases h2
    · injection h2 with h2
      injection h2 with h2
      subst h2
      refine ⟨g, cur, rfl, hh, fun j hj => ?_⟩
      have hjl : j < l.length := by simpa [bv] using (show j < (bv l).length by omega)
      have e1 : (cur.toList.take (n * 1))[j]? = some (.int .u8 l[j]) := by rw [hc4]; simp [bv, hjl]
      rw [List.getElem?_take] at e1
      split at e1
      · exact ⟨_, by simpa using e1⟩
      · cases e1
  · subst hA
    obtain ⟨_, h2⟩ := h
    rcases h2 with ⟨h2, h3⟩ | ⟨g, cap, cur, h2, _⟩
    · exact h3
    · cases h2
theorem Incs.step {w w' : World} {n : Nat} {g : Nat} (h : Incs (some ⟨g, 0, none⟩) n w w') (j : Nat) (x : Int) : Incs (some ⟨g, 0, none⟩) n w (w'.setCell ⟨g, j, none⟩ (.int .u8 x)) := by
  refine ⟨h.keep.setCell _ _ (fun _ => ⟨_, rfl, rfl⟩), fun ad had => ?_, fun h => by cases h⟩
  obtain ⟨g', cs, rfl, h1, h2⟩ := h.cells ad had
  injection had with had
  injection had with had
  subst had
  refine ⟨g, _, rfl, hset_at _ _ _ _ h1, fun k hk => ?_⟩
  obtain ⟨y, hy⟩ := h2 k hk
  rw [Array.getElem?_setIfInBounds]
  have hlt : k < cs.size := (Array.getElem?_eq_some_iff.1 hy).1
  by_cases hjk : j = k
  · subst hjk
    rw [if_pos rfl, if_pos hlt]
    exact ⟨_, rfl⟩
  · rw [if_neg hjk]
    exact ⟨y, hy⟩
theorem Incs.read {w w' : World} {n : Nat} {A : Option Addr} (h : Incs A n w w') {j : Nat} (hj : j < n) : ∃ g, A = some ⟨g, 0, none⟩ ∧ ∃ x : Int, w'.cell? ⟨g, j, none⟩ = some (.int .u8 x) ∧ w'.frozen? ⟨g, j, none⟩ = false := by
  cases A with
  | none => have := h.nil rfl; omega
  | some ad =>
    obtain ⟨g, cs, rfl, h1, h2⟩ := h.cells ad rfl
    obtain ⟨x, hx⟩ := h2 j hj
    exact ⟨g, rfl, x, (cell_of_block h1 j).trans hx, free_of_block h1 j⟩

end Go.Proofs.Ytlegnngelbneaaa.Fifo
