/- A scheduler in memory. Conditions: none beyond each lemma's own hypotheses. -/
import Derived.Test.YtliepgmjpbjhfaaFgDrrPure
import Derived.Maps.OwnSet
set_option linter.unusedVariables false
set_option linter.unusedSimpArgs false
namespace Go.Proofs.Ytliepgmjpbjhfaa.Drr
open Go.RowKit Go.Proofs.Ytliepgmjpbjhfaa.Fg Go.Shelf Go.Maps

theorem below_dr {w W : World} (h : Below W.heap.size W w) : Below W.heap.size W w.drew := ⟨h.os, h.tape, h.output, h.size, h.block⟩
theorem below_drN {w W : World} (h : Below W.heap.size W w) (q : Nat) : Below W.heap.size W (w.drewN q) := ⟨h.os, h.tape, h.output, h.size, h.block⟩
def iv (l : List Int) : List Value := l.map (Value.int .i64)
theorem iv_length (l : List Int) : (iv l).length = l.length := by simp [iv]
/-- How a member's place reads: as its block's number. -/
def rdp : Value → Option (DataW Unit × List MemPlace)
  | .pointer none => some (.nil, [])
  | .pointer (some ⟨p, 0, none⟩) => some (.lit (.int .i64 p), [])
  | _ => none
theorem rdp_nil {v : Value} {ps : List MemPlace} (h : rdp v = some (.nil, ps)) : v = .pointer none := by
  unfold rdp at h
  split at h
  · rfl
  · injection h with h; injection h with h1 h2; cases h1
  · cases h
theorem rdp_lit {v : Value} {p : Nat} {ps : List MemPlace} (h : rdp v = some (.lit (.int .i64 p), ps)) : v = .pointer (some ⟨p, 0, none⟩) := by
  unfold rdp at h
  split at h
  · injection h with h; injection h with h1 h2; cases h1
  · injection h with h; injection h with h1 h2; injection h1 with h1; injection h1 with h1 h3
    rename_i q
    have : q = p := by omega
    subst this; rfl
  · cases h
def ky (x : Int) : Lit := .int .i64 x
theorem ky_ne {x y : Int} (h : x ≠ y) : ky x ≠ ky y := fun e => h (by unfold ky at e; injection e)
/-- What the map holds. -/
structure MapIs (D : DataW Unit) (ms : List Mb) (bl : Int → Nat) : Prop where
  one : ∀ x m, fnd ms x = some m → has D (ky x) = true ∧ ∀ z, D.atKey (ky x) z = .lit (.int .i64 (bl x))
  no : ∀ x, fnd ms x = none → has D (ky x) = false ∧ ∀ z, D.atKey (ky x) z = z
  size : Maps.size D = ms.length
def mcells (m : Mb) : Array Value := #[.int .u64 m.q, .int .u64 m.df, .bool m.vis]
structure IsS (w : World) (sb mb : Nat) (D : DataW Unit) (bl : Int → Nat) (va : Value) (s : Sc) (F : Nat → Prop) : Prop where
  head : w.heap[sb]? = some (.cells #[.map (some mb), va] 63 (0, 0))
  map : w.ownsMap Try.prog 3 rdp mb (Maps.size D) D
  mapIs : MapIs D s.ms bl
  mem : ∀ m ∈ s.ms, w.heap[bl m.who]? = some (.cells (mcells m) 67 (0, 0))
  inj : ∀ m ∈ s.ms, ∀ m' ∈ s.ms, bl m.who = bl m'.who → m.who = m'.who
  memF : ∀ m ∈ s.ms, F (bl m.who) ∧ bl m.who ≠ sb ∧ bl m.who ≠ mb
  act : w.ownsRow 0 3 1 va s.act.length (iv s.act)
  actF : ∀ k, va.ownBlock = some k → F k ∧ k ≠ sb ∧ k ≠ mb ∧ ∀ m ∈ s.ms, k ≠ bl m.who
  fs : F sb ∧ F mb ∧ sb ≠ mb
  lt : ∀ k, F k → k < w.heap.size
  ok : s.ok
def IsSc (w : World) (sb : Nat) (s : Sc) (F : Nat → Prop) : Prop := ∃ mb D bl va, IsS w sb mb D bl va s F
theorem tight {w : World} {k : TypeId} {R : Value → Option (DataW Unit × List MemPlace)} {b n : Nat} {D : DataW Unit} (h : w.ownsMap Try.prog k R b n D) : w.ownsMap Try.prog k R b (Maps.size D) D := by
  obtain ⟨es, clock, hb, F, hs, rfl⟩ := h
  exact ⟨es, clock, hb, F, by simp [Maps.size, length_sorted], rfl⟩
theorem map_same {w w' : World} {k : TypeId} {R : Value → Option (DataW Unit × List MemPlace)} {b n : Nat} {D : DataW Unit} (h : w.ownsMap Try.prog k R b n D) (hb : w'.heap[b]? = w.heap[b]?) : w'.ownsMap Try.prog k R b n D := by
  obtain ⟨es, clock, h1, F, hs, hD⟩ := h
  exact ⟨es, clock, hb.trans h1, F, hs, hD⟩
theorem IsS.same {w w' : World} {sb mb : Nat} {D : DataW Unit} {bl : Int → Nat} {va : Value} {s : Sc} {F : Nat → Prop} (h : IsS w sb mb D bl va s F) (hb : ∀ k, F k → w'.heap[k]? = w.heap[k]?) : IsS w' sb mb D bl va s F :=
  ⟨(hb _ h.fs.1).trans h.head, map_same h.map (hb _ h.fs.2.1), h.mapIs, fun m hm => (hb _ (h.memF m hm).1).trans (h.mem m hm), h.inj, h.memF, own_same h.act (fun k hk => hb k (h.actF k hk).1), h.actF, h.fs,
    fun k hk => by
      have hlt := h.lt k hk
      have e := hb k hk
      rw [Array.getElem?_eq_getElem hlt] at e
      exact block_lt e, h.ok⟩
theorem IsSc.below {w w' : World} {sb : Nat} {s : Sc} {F : Nat → Prop} (h : IsSc w sb s F) (hb : Below w.heap.size w w') : IsSc w' sb s F := by
  obtain ⟨mb, D, bl, va, h⟩ := h
  exact ⟨mb, D, bl, va, h.same fun k hk => hb.block k (h.lt k hk)⟩
/-- A member is written anew. -/
theorem IsS.put {w w' : World} {sb mb : Nat} {D : DataW Unit} {bl : Int → Nat} {va : Value} {s : Sc} {F : Nat → Prop} (h : IsS w sb mb D bl va s F) {m m' : Mb} (hm : fnd s.ms m.who = some m) (hw : m'.who = m.who) (ho : m'.ok)
    (hat : w'.heap[bl m.who]? = some (.cells (mcells m') 67 (0, 0))) (hb : ∀ k, k < w.heap.size → k ≠ bl m.who → w'.heap[k]? = w.heap[k]?) : IsS w' sb mb D bl va ⟨upd s.ms m', s.act⟩ F := by
  have hmm := fnd_mem hm
  obtain ⟨f1, f2, f3⟩ := h.memF m hmm
  have wh : ∀ y ∈ upd s.ms m', ∃ z ∈ s.ms, y.who = z.who ∧ (y = m' ∨ (y = z ∧ z.who ≠ m'.who)) := by
    intro y hy
    obtain ⟨z, hz, rfl⟩ := List.mem_map.1 hy
    split
    · rename_i e; exact ⟨z, hz, e.symm, .inl rfl⟩
    · rename_i e; exact ⟨z, hz, rfl, .inr ⟨rfl, e⟩⟩
  refine ⟨(hb _ (h.lt _ h.fs.1) (Ne.symm f2)).trans h.head, map_same h.map (hb _ (h.lt _ h.fs.2.1) (Ne.symm f3)), ⟨fun x y hy => ?_, fun x hx => ?_, by rw [h.mapIs.size]; exact (upd_length _ _).symm⟩, fun y hy => ?_, fun y hy y' hy' e => ?_, fun y hy => ?_, own_same h.act (fun k hk => hb k (h.lt _ (h.actF k hk).1) ((h.actF k hk).2.2.2 m hmm)), fun k hk => ?_, h.fs, fun k hk => ?_, h.ok.upd ho⟩
  · have hy : fnd (upd s.ms m') x = some y := hy
    rw [fnd_upd] at hy
    cases hh : fnd s.ms x with
    | none => rw [hh] at hy; split at hy <;> cases hy
    | some z => exact h.mapIs.one x z hh
  · have hx : fnd (upd s.ms m') x = none := hx
    rw [fnd_upd] at hx
    refine h.mapIs.no x ?_
    split at hx
    · cases hh : fnd s.ms x with
      | none => rfl
      | some z => rw [hh] at hx; cases hx
    · exact hx
  · obtain ⟨z, hz, e1, e2⟩ := wh y hy
    rcases e2 with rfl | ⟨rfl, hne⟩
    · rw [hw]; exact hat
    · rw [hb _ (h.lt _ (h.memF y hz).1) (fun e => hne (by rw [h.inj y hz m hmm e, hw]))]
      exact h.mem y hz
  · obtain ⟨z, hz, e1, -⟩ := wh y hy
    obtain ⟨z', hz', e1', -⟩ := wh y' hy'
    rw [e1, e1'] at e ⊢
    exact h.inj z hz z' hz' e
  · obtain ⟨z, hz, e1, -⟩ := wh y hy
    rw [e1]; exact h.memF z hz
  · obtain ⟨a1, a2, a3, a4⟩ := h.actF k hk
    refine ⟨a1, a2, a3, fun y hy => ?_⟩
    obtain ⟨z, hz, e1, -⟩ := wh y hy
    rw [e1]; exact a4 z hz
  · have hlt := h.lt k hk
    by_cases e : k = bl m.who
    · subst e; exact block_lt hat
    · have e2 := hb k hlt e
      rw [Array.getElem?_eq_getElem hlt] at e2
      exact block_lt e2
/-- Another row of those that are active. -/
theorem IsS.row {w w' : World} {sb mb : Nat} {D : DataW Unit} {bl : Int → Nat} {va va' : Value} {s : Sc} {F : Nat → Prop} (h : IsS w sb mb D bl va s F) {act : List Int} (ho : Sc.ok ⟨s.ms, act⟩)
    (hat : w'.heap[sb]? = some (.cells #[.map (some mb), va'] 63 (0, 0))) (hrow : w'.ownsRow 0 3 1 va' act.length (iv act))
    (hsz : w.heap.size ≤ w'.heap.size) (hv : ∀ k, va'.ownBlock = some k → va.ownBlock = some k ∨ w.heap.size ≤ k) (hb : ∀ k, k < w.heap.size → k ≠ sb → va.ownBlock ≠ some k → w'.heap[k]? = w.heap[k]?) :
    IsS w' sb mb D bl va' ⟨s.ms, act⟩ (fun k => F k ∨ va'.ownBlock = some k) := by
  have hm2 : ∀ m ∈ s.ms, w'.heap[bl m.who]? = w.heap[bl m.who]? := fun m hm => hb _ (h.lt _ (h.memF m hm).1) (h.memF m hm).2.1 (fun e => (h.actF _ e).2.2.2 m hm rfl)
  have hmb := hb mb (h.lt _ h.fs.2.1) (Ne.symm h.fs.2.2) (fun e => (h.actF _ e).2.2.1 rfl)
  refine ⟨hat, map_same h.map hmb, h.mapIs, fun m hm => (hm2 m hm).trans (h.mem m hm), h.inj, fun m hm => ⟨.inl (h.memF m hm).1, (h.memF m hm).2⟩, hrow, fun k hk => ⟨.inr hk, ?_⟩, ⟨.inl h.fs.1, .inl h.fs.2.1, h.fs.2.2⟩, fun k hk => hk.elim (fun hk => Nat.lt_of_lt_of_le (h.lt k hk) hsz) (fun hk => (hrow.lt k hk).2), ho⟩
  rcases hv k hk with e | e
  · exact (h.actF k e).2
  · exact ⟨fun e2 => by have := h.lt _ h.fs.1; omega, fun e2 => by have := h.lt _ h.fs.2.1; omega, fun m hm e2 => by have := h.lt _ (h.memF m hm).1; omega⟩
/-- What a call makes of a scheduler. -/
def Trn (w : World) (sb : Nat) (s : Sc) (F : Nat → Prop) (w' : World) : Prop := ∃ F', IsSc w' sb s F' ∧ Keep F w w' ∧ ∀ k, F' k → F k ∨ w.heap.size ≤ k
theorem Trn.refl {w : World} {sb : Nat} {s : Sc} {F : Nat → Prop} (h : IsSc w sb s F) : Trn w sb s F w := ⟨F, h, Keep.refl _ _, fun _ h => .inl h⟩
theorem Trn.trans {w w1 w2 : World} {sb : Nat} {s' : Sc} {F F1 : Nat → Prop} (h : Keep F w w1) (hF : ∀ k, F1 k → F k ∨ w.heap.size ≤ k) (k : Trn w1 sb s' F1 w2) : Trn w sb s' F w2 := by
  obtain ⟨F2, h1, h2, h3⟩ := k
  refine ⟨F2, h1, h.trans h2 (fun i hi hF1 => (hF i hF1).elim id (fun hge => absurd hi (Nat.not_lt.2 hge))), fun i hi => ?_⟩
  rcases h3 i hi with h4 | h4
  · exact hF i h4
  · exact .inr (Nat.le_trans h.size h4)
theorem IsSc.lt {w : World} {sb : Nat} {s : Sc} {F : Nat → Prop} (h : IsSc w sb s F) : ∀ k, F k → k < w.heap.size := by obtain ⟨_, _, _, _, h⟩ := h; exact h.lt
theorem IsSc.ok {w : World} {sb : Nat} {s : Sc} {F : Nat → Prop} (h : IsSc w sb s F) : s.ok := by obtain ⟨_, _, _, _, h⟩ := h; exact h.ok
/-- A scheduler whose blocks are all new. -/
def DS (W w : World) (sb : Nat) (s : Sc) (F : Nat → Prop) : Prop := IsSc w sb s F ∧ Below W.heap.size W w ∧ ∀ k, F k → W.heap.size ≤ k
theorem DS.turn {W w w' : World} {sb : Nat} {s s' : Sc} {F : Nat → Prop} (h : DS W w sb s F) (t : Trn w sb s' F w') : ∃ F', DS W w' sb s' F' := by
  obtain ⟨F', h1, h2, h3⟩ := t
  exact ⟨F', h1, h.2.1.trans (h2.below h.2.1.size h.2.2), fun k hk => (h3 k hk).elim (h.2.2 k) (Nat.le_trans h.2.1.size)⟩
theorem DS.below {W w w' : World} {sb : Nat} {s : Sc} {F : Nat → Prop} (h : DS W w sb s F) (hb : Below w.heap.size w w') : DS W w' sb s F :=
  ⟨h.1.below hb, h.2.1.trans (hb.mono h.2.1.size), h.2.2⟩
end Go.Proofs.Ytliepgmjpbjhfaa.Drr
