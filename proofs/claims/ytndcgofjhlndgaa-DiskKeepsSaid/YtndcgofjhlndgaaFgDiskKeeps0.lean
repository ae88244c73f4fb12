/- What a law of the disk layer keeps beside a disk: for each sector the bytes that it may begin with. Conditions: none beyond each lemma's own hypotheses. -/
import Derived.Test.YtndcgofjhlndgaaFgDiskKeepsPure
import Derived.Test.YtndcgofjhlndgaaFgDiskRuns0
import Derived.Test.YtndcgofjhlndgaaFgPush2
set_option linter.unusedVariables false
set_option linter.unusedSimpArgs false
namespace Go.Proofs.Ytndcgofjhlndgaa.Disk
open Go.RowKit Go.Proofs.Ytndcgofjhlndgaa.Fg

/-- A slice of slices of bytes in block mb; each lies in a block of its own. -/
structure May (W w : World) (mb : Nat) (F : Nat → Prop) (M : List (List Int)) (vs : List Value) (qs : Nat → Nat) : Prop where
  hmb : w.heap[mb]? = some (.cells vs.toArray 57 (0, 0))
  len : vs.length = M.length
  each : ∀ (i : Nat) (l : List Int), M[i]? = some l → ∃ v, vs[i]? = some v ∧ Fg.OwnAt w v l (qs i)
  inj : ∀ i j, i < M.length → j < M.length → qs i = qs j → i = j
  out : ∀ i, i < M.length → ¬ F (qs i) ∧ W.heap.size ≤ qs i
  nm : ¬ F mb ∧ W.heap.size ≤ mb
theorem May.ne {W w : World} {mb : Nat} {F : Nat → Prop} {M : List (List Int)} {vs : List Value} {qs : Nat → Nat} (h : May W w mb F M vs qs) {i : Nat} (hi : i < M.length) : qs i ≠ mb := by
  obtain ⟨v, _, o, c, cur, _, h2, _⟩ := h.each i _ (List.getElem?_eq_getElem hi)
  intro e
  rw [e, h.hmb] at h2
  injection h2 with h2
  injection h2 with _ h2
  exact absurd h2 (by decide)
theorem May.lt {W w : World} {mb : Nat} {F : Nat → Prop} {M : List (List Int)} {vs : List Value} {qs : Nat → Nat} (h : May W w mb F M vs qs) {i : Nat} (hi : i < M.length) : qs i < w.heap.size := by
  obtain ⟨v, _, ho⟩ := h.each i _ (List.getElem?_eq_getElem hi)
  exact ho.lt
theorem May.same {W w w' : World} {mb : Nat} {F F' : Nat → Prop} {M : List (List Int)} {vs : List Value} {qs : Nat → Nat} (h : May W w mb F M vs qs) (hm : w'.heap[mb]? = w.heap[mb]?) (hq : ∀ i, i < M.length → w'.heap[qs i]? = w.heap[qs i]?) (hF : ∀ k, k < w.heap.size → F' k → F k) : May W w' mb F' M vs qs :=
  ⟨hm.trans h.hmb, h.len, fun i l hl => by
    obtain ⟨v, h1, h2⟩ := h.each i l hl
    exact ⟨v, h1, h2.same (hq i (List.getElem?_eq_some_iff.1 hl).1)⟩, h.inj, fun i hi => ⟨fun hf => (h.out i hi).1 (hF _ (h.lt hi) hf), (h.out i hi).2⟩, ⟨fun hf => h.nm.1 (hF _ (block_lt h.hmb) hf), h.nm.2⟩⟩
theorem May.later {W w w' : World} {mb : Nat} {F : Nat → Prop} {M : List (List Int)} {vs : List Value} {qs : Nat → Nat} (h : May W w mb F M vs qs) (hb : Below w.heap.size w w') : May W w' mb F M vs qs :=
  h.same (hb.block _ (block_lt h.hmb)) (fun i hi => hb.block _ (h.lt hi)) (fun _ _ h => h)
theorem May.turned {W w w' : World} {mb : Nat} {F F' : Nat → Prop} {M : List (List Int)} {vs : List Value} {qs : Nat → Nat} (h : May W w mb F M vs qs) (hk : Keep F w w') (hF : ∀ k, F' k → F k ∨ w.heap.size ≤ k) : May W w' mb F' M vs qs :=
  h.same (hk.block _ (block_lt h.hmb) h.nm.1) (fun i hi => hk.block _ (h.lt hi) (h.out i hi).1) (fun k hlt hf => (hF k hf).elim id (fun h => by omega))
/-- One of them is another one, in its own block or a new one. -/
theorem May.set {W w w' : World} {mb : Nat} {F : Nat → Prop} {M : List (List Int)} {vs : List Value} {qs : Nat → Nat} (h : May W w mb F M vs qs) {i : Nat} (hi : i < M.length) (hb : ∀ k, F k → k < w.heap.size) (hW : W.heap.size ≤ w.heap.size) {l : List Int} {v : Value} {q' : Nat} (hk : Keep (fun b => b = qs i ∨ b = mb) w w')
    (ho : Fg.OwnAt w' v l q') (hq : q' = qs i ∨ w.heap.size ≤ q') (hm : w'.heap[mb]? = some (.cells (vs.set i v).toArray 57 (0, 0))) : May W w' mb F (M.set i l) (vs.set i v) (fun j => if j = i then q' else qs j) := by
  have hmb := block_lt h.hmb
  refine ⟨hm, by simp [h.len], fun j m hj => ?_, fun a b ha hb' hab => ?_, fun j hj => ?_, h.nm⟩
  · by_cases hji : j = i
    · subst hji
      rw [List.getElem?_set_self hi] at hj
      injection hj with hj
      subst hj
      exact ⟨v, by rw [List.getElem?_set_self (by rw [h.len]; exact hi)], by rw [if_pos rfl]; exact ho⟩
    · rw [List.getElem?_set_ne (fun e => hji e.symm)] at hj
      obtain ⟨u, h1, h2⟩ := h.each j m hj
      have hj' := (List.getElem?_eq_some_iff.1 hj).1
      refine ⟨u, by rw [List.getElem?_set_ne (fun e => hji e.symm)]; exact h1, ?_⟩
      rw [if_neg hji]
      refine h2.same (hk.block _ (h.lt hj') ?_)
      rintro (e | e)
      · exact hji (h.inj j i hj' hi e)
      · exact h.ne hj' e
  · simp only [List.length_set] at ha hb'
    try simp only at hab
    split at hab
    · split at hab
      · omega
      · rename_i h1 h2
        rcases hq with hq | hq
        · exact absurd (h.inj i b hi hb' (hq.symm.trans hab)) (fun e => h2 e.symm)
        · have := h.lt hb'; omega
    · split at hab
      · rename_i h1 h2
        rcases hq with hq | hq
        · exact absurd (h.inj a i ha hi (hab.trans hq)) h1
        · have := h.lt ha; omega
      · exact h.inj a b ha hb' hab
  · simp only [List.length_set] at hj
    try simp only
    split
    · rcases hq with hq | hq
      · rw [hq]; exact h.out i hi
      · exact ⟨fun hf => by have := hb _ hf; omega, by omega⟩
    · exact h.out j hj

/-- Between acts. -/
def KNow (W : World) (g mb n j : Nat) (w : World) : Prop := ∃ d F M vs qs, LD W w g d F ∧ May W w mb F M vs qs ∧ Inv d M ∧ d.pd.length ≤ j ∧ (∀ l ∈ M, l.length ≤ j + 1) ∧ M.length = n
theorem info_bs : (Try.prog.info? 57).map (fun i => (i.zero, i.size, i.bytes)) = some (some (.slice none 0 0), 1, 24) := by kernel_rfl
theorem make_bss (n : Nat) (hn : n ≤ 100) (u : World) : (Instr.makeSlice 56 (.int .i64 n) (.int .i64 n)).run Try.prog u =
    .ok (.slice (some ⟨u.heap.size, 0, none⟩) n n) (u.alloc (.cells (List.replicate n (Value.slice none 0 0)).toArray 57)) := by
  obtain ⟨i0, hi, hz0, hz1, hz2⟩ := info_parts info_bs
  have h := run_make (P := Try.prog) u 56 57 i0 (.slice none 0 0) Try.underlying56 hi hz0 .i64 .i64 n n (by omega) (Int.le_refl _) (by rw [hz2]; omega) (by omega)
  have e : (madeCells #[Value.slice none 0 0] n) = (List.replicate n (Value.slice none 0 0)).toArray := by
    apply Array.ext'
    rw [toList_madeCells_one]
  rw [← e]
  simpa [hz1, Value.cells] using h

/-- Within a round: the act lies in a block of its own. -/
structure KN (W w : World) (g mb ab : Nat) (O : Obj) (d : Dk) (F : Nat → Prop) (M : List (List Int)) (vs : List Value) (qs : Nat → Nat) : Prop where
  ld : LD W w g d F
  may : May W w mb F M vs qs
  hab : w.heap[ab]? = some O
  nf : ¬ F ab
  nm : ab ≠ mb
  nq : ∀ i, i < M.length → qs i ≠ ab
section
variable {W w w' : World} {g mb ab : Nat} {O : Obj} {d d' : Dk} {F : Nat → Prop} {M : List (List Int)} {vs : List Value} {qs : Nat → Nat}
theorem KN.later (h : KN W w g mb ab O d F M vs qs) (hb : Below w.heap.size w w') : KN W w' g mb ab O d F M vs qs :=
  ⟨h.ld.later hb, h.may.later hb, (hb.block _ (block_lt h.hab)).trans h.hab, h.nf, h.nm, h.nq⟩
theorem KN.turn (h : KN W w g mb ab O d F M vs qs) (t : Turned w g d' F w') : ∃ F', KN W w' g mb ab O d' F' M vs qs := by
  obtain ⟨F', h1, h2, h3⟩ := h.ld.turn t
  refine ⟨F', h1, h.may.turned h2 h3, (h2.block _ (block_lt h.hab) h.nf).trans h.hab, fun hf => ?_, h.nm, h.nq⟩
  rcases h3 _ hf with h4 | h4
  · exact h.nf h4
  · have := block_lt h.hab; omega
/-- One of the slices is another one. -/
theorem KN.set (h : KN W w g mb ab O d F M vs qs) {i : Nat} (hi : i < M.length) {l : List Int} {v : Value} {q' : Nat} (hk : Keep (fun b => b = qs i ∨ b = mb) w w')
    (ho : Fg.OwnAt w' v l q') (hq : q' = qs i ∨ w.heap.size ≤ q') (hm : w'.heap[mb]? = some (.cells (vs.set i v).toArray 57 (0, 0))) :
    KN W w' g mb ab O d F (M.set i l) (vs.set i v) (fun j => if j = i then q' else qs j) := by
  have ho1 := h.may.out i hi
  refine ⟨⟨h.ld.disk.same (fun k hF => hk.block k (h.ld.disk.lt k hF) ?_), Keep.below ((Keep.of_below h.ld.below).trans hk (fun k _ hS => ?_)) (Nat.le_refl _) (fun i h => h), h.ld.base⟩,
    h.may.set hi (fun k hF => h.ld.disk.lt k hF) h.ld.below.size hk ho hq hm, (hk.block _ (block_lt h.hab) ?_).trans h.hab, h.nf, h.nm, fun j hj => ?_⟩
  · rintro (e | e)
    · exact ho1.1 (e ▸ hF)
    · exact h.may.nm.1 (e ▸ hF)
  · rcases hS with e | e
    · rw [e]; exact ho1.2
    · rw [e]; exact h.may.nm.2
  · rintro (e | e)
    · exact h.nq i hi e.symm
    · exact h.nm e
  · rw [List.length_set] at hj
    split
    · rcases hq with hq | hq
      · rw [hq]; exact h.nq i hi
      · have := block_lt h.hab; omega
    · exact h.nq j hj
end
/-- The act is laid down in a new block. -/
theorem kn_start {W w : World} {g mb : Nat} {d : Dk} {F : Nat → Prop} {M : List (List Int)} {vs : List Value} {qs : Nat → Nat} (h : LD W w g d F) (hm : May W w mb F M vs qs) (O : Obj) : KN W (w.alloc O) g mb w.heap.size O d F M vs qs :=
  ⟨h.later ((Below.refl _ _).alloc (Nat.le_refl _) _), hm.later ((Below.refl _ _).alloc (Nat.le_refl _) _), heap_alloc_at w O, fun hf => Nat.lt_irrefl _ (h.disk.lt _ hf), fun e => by have := block_lt hm.hmb; omega, fun i hi e => by have := hm.lt hi; omega⟩
/-- While the first one of each slice is laid down. -/
structure Fill (W w : World) (g mb n i : Nat) (d : Dk) (F : Nat → Prop) (vs : List Value) (qs : Nat → Nat) : Prop where
  ld : LD W w g d F
  hmb : w.heap[mb]? = some (.cells vs.toArray 57 (0, 0))
  len : vs.length = n
  each : ∀ j, j < i → ∃ v, vs[j]? = some v ∧ Fg.OwnAt w v [0] (qs j)
  inj : ∀ a b, a < i → b < i → qs a = qs b → a = b
  out : ∀ j, j < i → ¬ F (qs j) ∧ W.heap.size ≤ qs j
  nm : ¬ F mb ∧ W.heap.size ≤ mb
theorem fill_start {W w : World} {g : Nat} {d : Dk} {F : Nat → Prop} (h : LD W w g d F) (n : Nat) : Fill W (w.alloc (.cells (Array.replicate n (Value.slice none 0 0)) 57)) g w.heap.size n 0 d F (List.replicate n (Value.slice none 0 0)) id :=
  ⟨h.later ((Below.refl _ _).alloc (Nat.le_refl _) _), (heap_alloc_at w _).trans (by rw [List.toArray_replicate]), by simp, fun j hj => absurd hj (Nat.not_lt_zero _), fun a b ha => absurd ha (Nat.not_lt_zero _), fun j hj => absurd hj (Nat.not_lt_zero _),
    fun hf => Nat.lt_irrefl _ (h.disk.lt _ hf), h.below.size⟩
theorem Fill.next {W w : World} {g mb n i : Nat} {d : Dk} {F : Nat → Prop} {vs : List Value} {qs : Nat → Nat} (h : Fill W w g mb n i d F vs qs) (hi : i < n) :
    Fill W ((w.alloc (.cells #[.int .u8 0] 5)).setCell ⟨mb, i, none⟩ (.slice (some ⟨w.heap.size, 0, none⟩) 1 1)) g mb n (i + 1) d F (vs.set i (.slice (some ⟨w.heap.size, 0, none⟩) 1 1)) (fun j => if j = i then w.heap.size else qs j) := by
  have hmb := block_lt h.hmb
  have B1 : Below w.heap.size w (w.alloc (.cells #[.int .u8 0] 5)) := (Below.refl _ _).alloc (Nat.le_refl _) _
  have hn : ∀ k, k ≠ mb → k < w.heap.size → ((w.alloc (.cells #[.int .u8 0] 5)).setCell ⟨mb, i, none⟩ (.slice (some ⟨w.heap.size, 0, none⟩) 1 1)).heap[k]? = w.heap[k]? := fun k h1 h2 => (hset_other _ _ _ h1).trans (heap_alloc_old _ _ h2)
  have hnew : Fg.OwnAt ((w.alloc (.cells #[.int .u8 0] 5)).setCell ⟨mb, i, none⟩ (.slice (some ⟨w.heap.size, 0, none⟩) 1 1)) (.slice (some ⟨w.heap.size, 0, none⟩) 1 1) [0] w.heap.size :=
    ⟨0, 1, #[.int .u8 0], rfl, (hset_other _ _ _ (by show w.heap.size ≠ mb; omega)).trans (heap_alloc_at w _), by simp, by simp [maxLen], by simp, fun j x hx => by
      match j, hx with
      | 0, hx => injection hx with hx; rw [← hx]; rfl⟩
  have hold : ∀ j, j < i → qs j < w.heap.size ∧ qs j ≠ mb := fun j hj => by
    obtain ⟨v, _, o, c, cur, _, h2, _⟩ := h.each j hj
    refine ⟨block_lt h2, fun e => ?_⟩
    rw [e, h.hmb] at h2
    injection h2 with h2
    injection h2 with _ h2
    exact absurd h2 (by decide)
  refine ⟨⟨h.ld.disk.same (fun k hF => hn k (fun e => h.nm.1 (e ▸ hF)) (h.ld.disk.lt k hF)), Keep.below ((Keep.of_below (h.ld.below.trans (B1.mono h.ld.below.size))).setCell _ _ (fun hlt => ?_)) (Nat.le_refl _) (fun i h => h), h.ld.base⟩, ?_, by simp [h.len], fun j hj => ?_, fun a b ha hb hab => ?_, fun j hj => ?_, h.nm⟩
  · exact h.nm.2
  · rw [hset_at _ mb i _ ((heap_alloc_old _ _ hmb).trans h.hmb)]
    simp
  · by_cases hji : j = i
    · subst hji
      rw [if_pos rfl]
      exact ⟨_, by rw [List.getElem?_set_self (by rw [h.len]; exact hi)], hnew⟩
    · rw [if_neg hji]
      obtain ⟨v, h1, h2⟩ := h.each j (by omega)
      obtain ⟨h3, h4⟩ := hold j (by omega)
      exact ⟨v, by rw [List.getElem?_set_ne (fun e => hji e.symm)]; exact h1, h2.same (hn _ h4 h3)⟩
  · by_cases h1 : a = i <;> by_cases h2 : b = i
    · omega
    · rw [if_pos h1, if_neg h2] at hab
      have := (hold b (by omega)).1; omega
    · rw [if_neg h1, if_pos h2] at hab
      have := (hold a (by omega)).1; omega
    · rw [if_neg h1, if_neg h2] at hab
      exact h.inj a b (by omega) (by omega) hab
  · by_cases hji : j = i
    · rw [if_pos hji]
      exact ⟨fun hf => Nat.lt_irrefl _ (h.ld.disk.lt _ hf), h.ld.below.size⟩
    · rw [if_neg hji]
      exact h.out j (by omega)
theorem Fill.may {W w : World} {g mb n : Nat} {d : Dk} {F : Nat → Prop} {vs : List Value} {qs : Nat → Nat} (h : Fill W w g mb n n d F vs qs) : May W w mb F (List.replicate n [0]) vs qs := by
  refine ⟨h.hmb, by simp [h.len], fun i l hl => ?_, fun i j hi hj => h.inj i j (by simpa using hi) (by simpa using hj), fun i hi => h.out i (by simpa using hi), h.nm⟩
  rw [List.getElem?_replicate] at hl
  split at hl
  · injection hl with hl
    subst hl
    exact h.each i (by assumption)
  · cases hl

theorem put_falls {d : Dk} {i : Int} (s : List Int) (h : d.putE i ≠ 0) : (d.put i s).st = d.st ∧ (d.put i s).pd = d.pd := by
  unfold Dk.putE at h
  unfold Dk.put
  split
  · rename_i ht
    rw [if_pos ht] at h
    rw [if_neg h]
    exact ⟨Dk.act_st d, Dk.act_pd d⟩
  · exact ⟨rfl, rfl⟩
theorem sync_falls {d : Dk} (h : d.actE ≠ 0) : d.sync.st = d.st ∧ d.sync.pd = d.pd := by
  unfold Dk.sync
  rw [if_neg h]
  exact ⟨Dk.act_st d, Dk.act_pd d⟩
theorem keeps_put_pd (d : Dk) (i : Int) (s : List Int) : (d.put i s).pd.length ≤ d.pd.length + 1 := by
  unfold Dk.put
  split
  · split
    · simp
    · rw [Dk.act_pd]; omega
  · omega
theorem keeps_sync_pd (d : Dk) : d.sync.pd.length ≤ d.pd.length := by
  unfold Dk.sync
  split
  · simp
  · rw [Dk.act_pd]; omega
theorem there_of_putE {d : Dk} {i : Int} (h : d.putE i = 0) : 0 ≤ i ∧ i < d.st.length := by
  unfold Dk.putE at h
  split at h
  · rename_i ht
    simpa [Dk.there] using ht
  · exact absurd h (by decide)
theorem lastOnly_len (l : List Int) : (lastOnly l).length ≤ 1 := by unfold lastOnly; rw [List.length_drop]; omega
theorem info_byte : (Try.prog.info? 5).map (fun i => (i.zero, i.size, i.bytes)) = some (some (.int .u8 0), 1, 1) := by kernel_rfl
/-- The first ones are cut already. -/
def Cutting (M : List (List Int)) (i : Nat) (Mx : List (List Int)) : Prop := Mx.length = M.length ∧ ∀ j, Mx[j]? = if j < i then (M[j]?).map lastOnly else M[j]?
theorem cutting_start (M : List (List Int)) : Cutting M 0 M := ⟨rfl, fun j => by simp⟩
theorem Cutting.next {M Mx : List (List Int)} {i : Nat} (h : Cutting M i Mx) {m : List Int} (hm : M[i]? = some m) : Cutting M (i + 1) (Mx.set i (lastOnly m)) := by
  have hi := (List.getElem?_eq_some_iff.1 hm).1
  refine ⟨by rw [List.length_set]; exact h.1, fun j => ?_⟩
  by_cases hj : i = j
  · subst hj
    rw [List.getElem?_set_self (by rw [h.1]; exact hi), if_pos (by omega), hm]
    rfl
  · rw [List.getElem?_set_ne hj, h.2 j]
    by_cases h1 : j < i
    · rw [if_pos h1, if_pos (by omega)]
    · rw [if_neg h1, if_neg (by omega)]
theorem Cutting.done {M Mx : List (List Int)} (h : Cutting M M.length Mx) : Mx = M.map lastOnly := by
  apply List.ext_getElem?
  intro j
  rw [h.2 j, List.getElem?_map]
  split
  · rfl
  · rw [List.getElem?_eq_none (by omega)]; rfl

set_option maxRecDepth 100000 in
set_option maxHeartbeats 1000000 in
/-- As crash_any; a slice of no bools may lie anywhere. -/
theorem crash_any0 {w : World} {g : Nat} {d : Dk} {F : Nat → Prop} (h : IsDisk w g d F) (l : List Bool) (A : Option Addr) (c : Nat) (hs : Fg.Src w A l.length c (blv l)) (hn : ∀ ad, A = some ad → l ≠ [] → ¬ F ad.block) :
    Calls Try.prog 15 #[.pointer (some ⟨g, 0, none⟩), .slice A l.length c] w fun e w' => e = .returned (.tuple #[]) ∧ Turned w g (d.crash l) F w' := by
  have hent := fun (args : Array Value) (w : World) => enters (P := Try.prog) Try.func29 (by decide) rfl args w
  have HE := Lib.hid hent
  have H0 := Lib.hid h
  have H1 := Lib.hid (h.below ((Below.refl _ _).alloc (Nat.le_refl _) (.cells #[.slice A l.length c] 33)))
  have B1 : Hid (Below w.heap.size w (w.alloc (.cells #[.slice A l.length c] 33))) := Lib.hid ((Below.refl _ _).alloc (Nat.le_refl _) _)
  have K0 := Lib.hid (heap_alloc_at w (.cells #[.slice A l.length c] 33))
  have HS := Lib.hid hs
  have HN := Lib.hid hn
  have hmf : ∀ (fn : Fn) (first cap : Array Value) (w : World), (Instr.makeFunc fn first cap).run Try.prog w = .ok (.func fn first cap) w := fun _ _ _ _ => rfl
  clear h hs hn hent
  go_enter Try.func15, Try.ntmps15
  go_wp2_with fail
  generalize w.alloc (.cells #[.slice A l.length c] 33) = w1 at *
  refine (keep_any H1.out (fun j => l.getD j false) _ #[.pointer (some ⟨w.heap.size, 0, none⟩)] HE.out (fun S w' j hSF hk _ => crash1_any l A c w.heap.size j w' ?_ ?_)).mono ?_
  · have h1 : Fg.Src w1 A l.length c (blv l) := HS.out.same fun ad had hne => B1.out.block _ (HS.out.lt had hne)
    by_cases hl : l = []
    · subst hl
      exact ⟨h1.nil, h1.cap, h1.most, (fun _ _ _ _ hu => by simp [blv] at hu)⟩
    · exact h1.keep hk (fun ad had hS => HN.out ad had hl (hSF _ hS))
  · exact (hk.cell (p := ⟨w.heap.size, 0, none⟩) (block_lt K0.out) (fun hS => Nat.lt_irrefl _ (H0.out.lt _ (hSF _ hS)))).trans (cell_of_block K0.out 0)
  rintro e w2 ⟨rfl, F2, h2, k2, f2⟩
  have H2 := Lib.hid h2
  have K2 := Lib.hid k2
  have F2' := Lib.hid f2
  obtain ⟨⟨sb, vp, i1, -⟩, -⟩ := h2
  have c2 : w2.cell? ⟨g, 2, none⟩ = some (.int .i64 d.left) := cell_of_block i1.head 2
  have c3 : w2.cell? ⟨g, 3, none⟩ = some (.bool d.down) := cell_of_block i1.head 3
  have g2 := free_of_block i1.head 2
  have g3 := free_of_block i1.head 3
  clear k2 f2 i1 hmf
  go_wp2_with fail
  go_end0
  have ht := H2.out.set2 (d' := d.crash l) (Dk.crash_ok H0.out.ok l) rfl rfl
  have k1 : Keep F w w1 := Keep.of_new B1.out
  refine ⟨rfl, Turned.trans (k1.trans K2.out (fun i hi h => h)) (fun k hk => ?_) ht⟩
  rcases F2'.out k hk with h | h
  · exact .inl h
  · right; have := k1.size; omega
end Go.Proofs.Ytndcgofjhlndgaa.Disk
