/- What DrrFair keeps beside a scheduler. Conditions: none beyond each lemma's own hypotheses. -/
import Derived.Test.YtliepgmjpbjhfaaFgDrrShares
import Derived.Test.YtliepgmjpbjhfaaFgDrrRows
set_option linter.unusedVariables false
set_option linter.unusedSimpArgs false
namespace Go.Proofs.Ytliepgmjpbjhfaa.Drr
open Go.RowKit Go.Proofs.Ytliepgmjpbjhfaa.Fg Go.Shelf Go.Maps

theorem uv_one (l : List Int) : ∀ u ∈ uv l, u.oneCell' = true := fun u hu => by obtain ⟨x, -, rfl⟩ := List.mem_map.1 hu; rfl
theorem arrInfo : (Try.prog.info? 30).map (fun i => (i.zero, i.size, i.bytes)) = some (some (.agg (uv (List.replicate 8 0)).toArray), 8, 64) := by kernel_rfl
theorem arrInfo2 : (Try.prog.info? 30).map (fun i => (i.zero, i.size)) = some (some (.agg (uv (List.replicate 8 0)).toArray), 8) := by kernel_rfl
theorem arrSize : (Try.prog.info? 30).map (·.size) = some 8 := by kernel_rfl
theorem uv_rows (ms : List (List Int)) (h : ∀ x ∈ ms, x.length = 8) : ∀ r ∈ ms.map uv, r.length = 8 := fun r hr => by obtain ⟨x, hx, rfl⟩ := List.mem_map.1 hr; rw [uv_length]; exact h x hx
structure FBm (W w : World) (sb bk : Nat) (v : Value) (s : Sc) (F : Nat → Prop) (sent : List Int) (ms : List (List Int)) : Prop where
  ds : DS W w sb s F
  len : sent.length = 8
  hk : w.heap[bk]? = some (.cells (uv sent).toArray 30 (0, 0))
  nf : ¬ F bk ∧ W.heap.size ≤ bk
  row : w.ownsRow W.heap.size 30 8 v ms.length (ms.map uv).flatten
  rowF : ∀ b, v.ownBlock = some b → ¬ F b ∧ b ≠ bk
structure FBp (qs : List Int) (M : Int) (j : Nat) (s : Sc) (r : Int → Int) (sent : List Int) (ms : List (List Int)) : Prop where
  fr : Fr qs M s r sent
  each : ∀ x ∈ ms, Sn qs M x ∧ x.length = 8 ∧ ∀ i, 0 ≤ x.getD i 0 ∧ x.getD i 0 ≤ sent.getD i 0
  up : ms.Pairwise (fun a b => ∀ i, a.getD i 0 ≤ b.getD i 0)
  most : ∀ i, 0 ≤ sent.getD i 0 ∧ sent.getD i 0 ≤ j * 16777216
  cnt : ms.length ≤ 121
theorem FBm.turn {W w w' : World} {sb bk : Nat} {v : Value} {s s' : Sc} {F : Nat → Prop} {sent : List Int} {ms : List (List Int)} (h : FBm W w sb bk v s F sent ms) (t : Trn w sb s' F w') : ∃ F', FBm W w' sb bk v s' F' sent ms := by
  obtain ⟨F', l1⟩ := h.ds.turn t
  obtain ⟨F2, h1, h2, h3⟩ := t
  refine ⟨F2, ⟨h1, h.ds.2.1.trans (h2.below h.ds.2.1.size h.ds.2.2), fun k hk => (h3 k hk).elim (h.ds.2.2 k) (Nat.le_trans h.ds.2.1.size)⟩, h.len, (h2.block _ (block_lt h.hk) h.nf.1).trans h.hk, ⟨fun hf => (h3 _ hf).elim h.nf.1 (fun hge => absurd (block_lt h.hk) (Nat.not_lt.2 hge)), h.nf.2⟩,
    own_same h.row fun k hk => h2.block k (h.row.lt k hk).2 (h.rowF k hk).1, fun b hb => ⟨fun hf => (h3 b hf).elim (h.rowF b hb).1 (fun hge => absurd (h.row.lt b hb).2 (Nat.not_lt.2 hge)), (h.rowF b hb).2⟩⟩
theorem FBm.put {W w : World} {sb bk : Nat} {v : Value} {s : Sc} {F : Nat → Prop} {sent : List Int} {ms : List (List Int)} (h : FBm W w sb bk v s F sent ms) (x : Nat) (y : Int) :
    FBm W (w.setCell ⟨bk, x, none⟩ (.int .u64 y)) sb bk v s F (sent.set x y) ms := by
  have hb : ∀ k, k ≠ bk → (w.setCell ⟨bk, x, none⟩ (.int .u64 y)).heap[k]? = w.heap[k]? := fun k hk => hset_other _ _ _ hk
  obtain ⟨⟨mb, D, bl, va, hi⟩, hB, hF⟩ := h.ds
  refine ⟨⟨⟨mb, D, bl, va, hi.same fun k hk => hb k (fun e => h.nf.1 (e ▸ hk))⟩, hB.setCell (p := ⟨bk, x, none⟩) h.nf.2 _, hF⟩, by rw [List.length_set]; exact h.len, ?_, h.nf, own_same h.row fun k hk => hb k (h.rowF k hk).2, h.rowF⟩
  have := hset_at w bk x (.int .u64 y) h.hk
  rw [this]
  simp [uv, List.map_set]
theorem FBm.push {W w w2 : World} {o : Obj} {sb bk : Nat} {v v' : Value} {s : Sc} {F : Nat → Prop} {sent : List Int} {ms : List (List Int)} (h : FBm W w sb bk v s F sent ms)
    (ho : w2.ownsRow W.heap.size 30 8 v' (ms.length + 1) ((ms.map uv).flatten ++ uv sent)) (hg : (w.alloc o).grownBy w2 v.ownBlock) (hat : v'.ownBlock = v.ownBlock ∨ v'.ownBlock = some (w.heap.size + 1)) :
    FBm W w2 sb bk v' s F sent (ms ++ [sent]) := by
  have hbb := block_lt h.hk
  have h1 := h.ds.below ((Below.refl _ _).alloc (Nat.le_refl _) o)
  have hkp : ∀ k, k < w.heap.size → v.ownBlock ≠ some k → w2.heap[k]? = w.heap[k]? := fun k hk hne => (hg.block k (by simp; omega) (fun e => hne e.symm)).trans (heap_alloc_old w o hk)
  have hlt1 : ∀ k, v.ownBlock = some k → W.heap.size ≤ k := fun k hk => (h.row.lt k hk).1
  obtain ⟨⟨mb, D, bl, va, hi⟩, hB, hF⟩ := h.ds
  refine ⟨⟨⟨mb, D, bl, va, hi.same fun k hk => hkp k (hi.lt k hk) (fun e => (h.rowF k e).1 hk)⟩, h1.2.1.trans ((Below.refl _ _).grown hg h1.2.1.size hlt1), hF⟩, h.len, (hkp bk hbb (fun e => (h.rowF bk e).2 rfl)).trans h.hk, h.nf, ?_, fun b hb => ?_⟩
  · rw [List.map_append, List.flatten_append, List.length_append]
    simpa using ho
  · rcases hat with e | e
    · exact h.rowF b (e ▸ hb)
    · rw [e] at hb
      injection hb with hb
      exact ⟨fun hf => by have := hi.lt b hf; omega, fun e => by omega⟩
theorem FBp.push {qs : List Int} {M : Int} {j : Nat} {s : Sc} {r : Int → Int} {sent : List Int} {ms : List (List Int)} (h : FBp qs M j s r sent ms) (hl : sent.length = 8) (hc : ms.length ≤ 120) : FBp qs M j s r sent (ms ++ [sent]) := by
  refine ⟨h.fr, fun x hx => ?_, ?_, h.most, by simp; omega⟩
  · rcases List.mem_append.1 hx with hx | hx
    · exact h.each x hx
    · rw [List.mem_singleton.1 hx]
      exact ⟨h.fr.snap, hl, fun i => ⟨(h.most i).1, Int.le_refl _⟩⟩
  · rw [List.pairwise_append]
    refine ⟨h.up, by simp, fun a ha b hb i => ?_⟩
    rw [List.mem_singleton.1 hb]
    exact ((h.each a ha).2.2 i).2
/-- A packet is counted. -/
theorem FBp.adds {qs : List Int} {M : Int} {j : Nat} {s s' : Sc} {r r' : Int → Int} {sent : List Int} {ms : List (List Int)} (h : FBp qs M j s r sent ms) {x : Nat} {n : Int} (hn : 0 ≤ n ∧ n ≤ 16777216) (hl : x < sent.length)
    (hf : Fr qs M s' r' (sent.set x (sent.getD x 0 + n))) : FBp qs M (j + 1) s' r' (sent.set x (sent.getD x 0 + n)) ms := by
  have key : ∀ i, (sent.set x (sent.getD x 0 + n)).getD i 0 = if i = x then sent.getD x 0 + n else sent.getD i 0 := fun i => by
    by_cases e : i = x
    · subst e
      rw [if_pos rfl, List.getD_eq_getElem?_getD, List.getElem?_set_self hl]; rfl
    · rw [if_neg e, List.getD_eq_getElem?_getD, List.getElem?_set_ne (by omega), ← List.getD_eq_getElem?_getD]
  refine ⟨hf, fun y hy => ⟨(h.each y hy).1, (h.each y hy).2.1, fun i => ⟨((h.each y hy).2.2 i).1, ?_⟩⟩, h.up, fun i => ?_, h.cnt⟩
  · have := ((h.each y hy).2.2 i).2
    rw [key]; split
    · rename_i e; subst e; omega
    · exact this
  · have h1 := h.most i
    have h2 := h.most x
    rw [key]; split <;> omega
theorem FBp.other {qs : List Int} {M : Int} {j : Nat} {s s' : Sc} {r r' : Int → Int} {sent : List Int} {ms : List (List Int)} (h : FBp qs M j s r sent ms) (hf : Fr qs M s' r' sent) : FBp qs M j s' r' sent ms := ⟨hf, h.each, h.up, h.most, h.cnt⟩
theorem FBp.up1 {qs : List Int} {M : Int} {j : Nat} {s : Sc} {r : Int → Int} {sent : List Int} {ms : List (List Int)} (h : FBp qs M j s r sent ms) : FBp qs M (j + 1) s r sent ms := ⟨h.fr, h.each, h.up, fun i => by have := h.most i; omega, h.cnt⟩
/-- Two moments are fair. -/
theorem FBp.two {qs : List Int} {M : Int} {j : Nat} {s : Sc} {r : Int → Int} {sent : List Int} {ms : List (List Int)} (h : FBp qs M j s r sent ms) (hj : j ≤ 120) (hn : qs.length ≤ 8) (hq : ∀ i, 0 ≤ qs.getD i 0 ∧ qs.getD i 0 ≤ 16777216) (hM : 0 ≤ M ∧ M ≤ 16777216)
    {a b : Nat} (hab : a ≤ b) (hb : b < ms.length) : Two qs M (ms[a]'(by omega)) (ms[b]'hb) := by
  have ha : a < ms.length := by omega
  obtain ⟨a1, a2, a3⟩ := h.each _ (List.getElem_mem ha)
  obtain ⟨b1, b2, b3⟩ := h.each _ (List.getElem_mem hb)
  have hle : ∀ i, (ms[a]'ha).getD i 0 ≤ (ms[b]'hb).getD i 0 := fun i => by
    rcases Nat.lt_or_ge a b with hlt | hge
    · exact List.pairwise_iff_getElem.1 h.up a b ha hb hlt i
    · obtain rfl : a = b := by omega
      exact Int.le_refl _
  refine ⟨a2, b2, hn, hM, hq, fun i => ⟨(a3 i).1, hle i, ?_⟩, fun i j hi hj => fair_two a1 b1 (fun i => (hq i).1) hM.1 hle i j hi hj⟩
  have h1 := (b3 i).2
  have h2 := (h.most i).2
  omega
def FL (W : World) (sb bk : Nat) (qs : List Int) (M : Int) (j : Nat) (v : Value) (w : World) : Prop := ∃ s F r sent ms, FBm W w sb bk v s F sent ms ∧ FBp qs M j s r sent ms ∧ ms.length = j + 1
def FI (W : World) (sb bk : Nat) (qs : List Int) (M : Int) (j : Nat) (v : Value) (kk : Nat) (b : Bool) (w : World) : Prop :=
  ∃ s F r sent ms, FBm W w sb bk v s F sent ms ∧ ms.length = j + 1 ∧ (b = true → FBp qs M (j + 1) s r sent ms) ∧ (b = false → FBp qs M j s r sent ms ∧ (kk = 0 ∨ (kk = 1 ∧ ∃ x rest, s.act = x :: rest ∧ vz s x = false))) ∧ kk ≤ 2
theorem list8 {l : List Int} (h : l.length = 8) : ∃ a0 a1 a2 a3 a4 a5 a6 a7, l = [a0, a1, a2, a3, a4, a5, a6, a7] := by
  match l, h with
  | [a0, a1, a2, a3, a4, a5, a6, a7], _ => exact ⟨a0, a1, a2, a3, a4, a5, a6, a7, rfl⟩
theorem act_two {qs : List Int} {M : Int} {s : Sc} {r : Int → Int} {sent : List Int} (h : Fr qs M s r sent) (hn : 2 ≤ qs.length) : ∃ x rest, s.act = x :: rest ∧ rest ≠ [] ∧ 0 ≤ x ∧ x < qs.length := by
  have h0 := h.all 0 (by omega)
  have h1 := h.all 1 (by omega)
  cases ha : s.act with
  | nil => rw [ha] at h0; cases h0
  | cons x rest =>
    refine ⟨x, rest, rfl, fun e => ?_, h.only x (by rw [ha]; simp)⟩
    rw [ha, e] at h0 h1
    simp at h0 h1
    omega
theorem fb_start {W w : World} {sb : Nat} {qs : List Int} {M : Int} {F : Nat → Prop} (h : DS W w sb (fq qs qs.length) F) (hM : 0 ≤ M) :
    FL W sb w.heap.size qs M 0 (.slice (some ⟨w.heap.size + 1, 0, none⟩) 1 1) ((w.alloc (.cells (uv (List.replicate 8 0)).toArray 30)).alloc (.cells (uv (List.replicate 8 0)).toArray 30)) := by
  have hb : Below w.heap.size w ((w.alloc (.cells (uv (List.replicate 8 0)).toArray 30)).alloc (.cells (uv (List.replicate 8 0)).toArray 30)) := ((Below.refl _ _).alloc (Nat.le_refl _) _).alloc (by simp) _
  have hlt := h.1.lt
  have hW := h.2.1.size
  refine ⟨fq qs qs.length, F, fun _ => 0, List.replicate 8 0, [List.replicate 8 0], ⟨h.below hb, by simp, ?_, ⟨fun hf => absurd (hlt _ hf) (Nat.lt_irrefl _), hW⟩, ?_, fun b hb2 => ?_⟩, ⟨Fr.start qs M hM, fun x hx => ?_, by simp, fun i => ?_, by simp⟩, rfl⟩
  · rw [heap_alloc_old _ _ (by simp)]; exact heap_alloc_at w _
  · have := World.ownsRow_lit (base := W.heap.size) (e := 30) (size := 8) (w.alloc (.cells (uv (List.replicate 8 0)).toArray 30)) (uv (List.replicate 8 0)).toArray 1 (by simp; omega) (by simp [maxLen]) (by simp [uv])
    simpa using this
  · have hb2 : w.heap.size + 1 = b := by simpa [Value.ownBlock] using hb2
    exact ⟨fun hf => by have := hlt b hf; omega, by omega⟩
  · rw [List.mem_singleton.1 hx]
    exact ⟨(Fr.start qs M hM).snap, by simp, fun i => ⟨by rw [List.getD_eq_getElem?_getD, List.getElem?_replicate]; split <;> simp, Int.le_refl _⟩⟩
  · rw [List.getD_eq_getElem?_getD, List.getElem?_replicate]; split <;> simp
end Go.Proofs.Ytliepgmjpbjhfaa.Drr
