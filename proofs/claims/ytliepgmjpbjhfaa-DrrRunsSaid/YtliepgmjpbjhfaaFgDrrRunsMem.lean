/- DrrRuns: acts that came in; a scheduler beside the document's. Conditions: none beyond each lemma's own hypotheses. -/
import Derived.Test.YtliepgmjpbjhfaaFgDrrRem2
import Derived.Test.YtliepgmjpbjhfaaFgDrrRef08
import Derived.Test.YtliepgmjpbjhfaaFgDrrRef09
import Derived.Deep.Grids
import Derived.Deep.SlicePairs
import Derived.Deep.Strs
set_option linter.unusedVariables false
set_option linter.unusedSimpArgs false
namespace Go.Proofs.Ytliepgmjpbjhfaa.Drr
open Go.RowKit Go.Proofs.Ytliepgmjpbjhfaa.Fg Go.Shelf Go.Maps Go.ChangeShapes Go.WideShapes Go.ChangeAt

/-- An act. -/
structure Act2 where
  kind : Int
  who : Int
  n : Int
instance : Inhabited Act2 := ⟨⟨0, 0, 0⟩⟩
structure Acts2 (W : World) (A : Option Addr) (acts : List Act2) : Prop where
  nil : A = none → acts = []
  each : ∀ (i : Nat) (a : Act2), acts[i]? = some a → ∃ (b o : Nat), A = some ⟨b, o, none⟩ ∧ W.rangeAt b (o + i * 3) [.int .i64 a.kind, .int .i64 a.who, .int .u64 a.n] ∧ b < W.heap.size ∧ (Lit.int .i64 a.who).wf = true ∧ (0 ≤ a.n ∧ a.n < 18446744073709551616)
set_option maxRecDepth 100000 in
set_option maxHeartbeats 1000000 in
theorem open_acts2 {H : Type} {enc : TypeId × Value → H} {w : World} {held : Bool} {v : Value} {d : DataW H} {p : List MemPlace} {b0 : Nat} {r : Reach}
    (hv : Value.okWide Try.prog w r b0 45 v) (h : DataW.Trod enc Try.prog w 0 (fun _ => true) held 45 v d p) :
    ∃ (A : Option Addr) (c : Nat) (acts : List Act2), v = .slice A acts.length c ∧ acts.length ≤ c ∧ c ≤ maxLen ∧ Acts2 w A acts := by
  obtain ⟨a0, len0, cap0, rfl⟩ := okWide_slice Try.underlying45 hv
  obtain ⟨fuel, hf⟩ := h
  have hf' : DataW.trod enc Try.prog w 0 (fun _ => true) held fuel 45 [.slice a0 len0 cap0] = some (d, p) := hf
  rcases Go.Deep.open_slice Try.underlying45 hf' with ⟨hcs, _⟩ | ⟨a, len, cap, m, n, D, Pl, hcs, _, hl, hm, hmm, hx, hel⟩
  · injection hcs with hcs
    rw [hcs]
    exact ⟨none, 0, [], rfl, Nat.le_refl _, by simp [maxLen], ⟨fun _ => rfl, fun i a hi => by simp at hi⟩⟩
  · injection hcs with hcs
    rw [hcs]
    have hce : Try.prog.cellsOf 50 = 3 := by kernel_rfl
    have c1 : Try.prog.cellsOf 3 = 1 := by kernel_rfl
    have c2 : Try.prog.cellsOf 24 = 1 := by kernel_rfl
    rw [hce] at hel
    have hlm : len ≤ m := by rw [hmm]; split <;> omega
    have each : ∀ i, i < len → ∃ q : Act2, (∀ j v, ([.int .i64 q.kind, .int .i64 q.who, .int .u64 q.n] : List Value)[j]? = some v → w.cell? ((a.add (i * 3)).add j) = some v) ∧ (Lit.int .i64 q.who).wf = true ∧ (0 ≤ q.n ∧ q.n < 18446744073709551616) := by
      intro i hi
      obtain ⟨cs', h1, h2⟩ := hel i (by omega)
      obtain ⟨_, hlen, hcell⟩ := World.cells?_some h1
      obtain ⟨k0, k1, k2, rfl⟩ : ∃ k0 k1 k2, cs' = [k0, k1, k2] := by
        match cs', hlen with
        | [k0, k1, k2], _ => exact ⟨_, _, _, rfl⟩
      obtain ⟨y0, y1, y2, n', hDi, _, t0, t1, t2⟩ := Go.Deep.trod_struct3 Try.underlying50 h2
      simp only [c1, c2, List.drop_zero, List.drop_succ_cons, List.take_succ_cons, List.take_zero] at t0 t1 t2
      obtain ⟨z0, e0, _, w0⟩ := DataW.trod_int Try.underlying3 t0
      obtain ⟨z1, e1, _, w1⟩ := DataW.trod_int Try.underlying3 t1
      obtain ⟨z2, e2, _, w2⟩ := DataW.trod_int Try.underlying24 t2
      have e0' : k0 = .int .i64 z0 := by simpa using e0
      have e1' : k1 = .int .i64 z1 := by simpa using e1
      have e2' : k2 = .int .u64 z2 := by simpa using e2
      refine ⟨⟨z0, z1, z2⟩, fun j v hv => ?_, w1, ?_⟩
      · have hj : j < 3 := by
          have := (List.getElem?_eq_some_iff.1 hv).1
          simpa using this
        rw [hcell j hj, e0', e1', e2']
        exact hv
      · have hmin : IntKind.u64.min = 0 := rfl
        have hmax : IntKind.u64.max = 18446744073709551615 := rfl
        have : 0 ≤ z2 ∧ z2 ≤ 18446744073709551615 := by simpa only [Lit.wf, Bool.and_eq_true, decide_eq_true_eq, hmin, hmax] using w2
        exact ⟨this.1, by show z2 < _; omega⟩
    obtain ⟨Q, hQ⟩ := Go.Deep.choose_lt (α := Act2) (p := fun i q => (∀ j v, ([.int .i64 q.kind, .int .i64 q.who, .int .u64 q.n] : List Value)[j]? = some v → w.cell? ((a.add (i * 3)).add j) = some v) ∧ (Lit.int .i64 q.who).wf = true ∧ (0 ≤ q.n ∧ q.n < 18446744073709551616)) each
    refine ⟨some a, cap, (List.range len).map Q, by simp, by simpa using hl, hm, ⟨(fun h => by cases h), fun i q hi => ?_⟩⟩
    have hi' : i < len := by
      have := (List.getElem?_eq_some_iff.1 hi).1
      simpa using this
    have hq : Q i = q := by simpa [List.getElem?_map, List.getElem?_range hi'] using hi
    obtain ⟨q1, q2, q3⟩ := hQ i hi'
    rw [hq] at q1 q2 q3
    have hs0' : a.spot = none := by
      obtain ⟨p1, _⟩ := hQ 0 (by omega)
      have z := p1 0 _ rfl
      simp only [Nat.zero_mul, Addr.add_zero'] at z
      unfold World.cell? at z
      split at z
      · by_cases hs : a.spot.isSome = true
        · rw [if_pos hs] at z; cases z
        · cases hsp : a.spot with
          | none => rfl
          | some x => rw [hsp] at hs; exact absurd rfl hs
      · cases z
    have z0 := q1 0 _ rfl
    obtain ⟨b, o, s⟩ := a
    have hs0 : s = none := hs0'
    subst hs0
    rw [Addr.add_lit] at q1 z0
    refine ⟨b, o, rfl, fun j v hv => ?_, ?_, q2, q3⟩
    · have := q1 j v hv
      rw [Addr.add_lit] at this
      exact this
    · have := World.block_lt_of_cell? w _ z0
      simpa [Addr.add_zero'] using this

/-- A scheduler beside the document's, which lies in a box. -/
structure RI (W w : World) (sb b4 : Nat) (s t : Sc) (F : Nat → Prop) (A1 : Option Addr) (c1 : Nat) (A2 : Option Addr) (c2 : Nat) : Prop where
  ds : DS W w sb s F
  box : w.heap[b4]? = some (.cells #[.slice A1 t.ms.length c1, .slice A2 t.act.length c2] 48 (0, 0))
  rf : RF w A1 c1 A2 c2 t
  nf : ¬ F b4
  gb : W.heap.size ≤ b4
  gn : ∀ b, ((Value.slice A1 t.ms.length c1).ownBlock = some b ∨ (Value.slice A2 t.act.length c2).ownBlock = some b) → ¬ F b
theorem RI.turn {W w w' : World} {sb b4 : Nat} {s s' t : Sc} {F : Nat → Prop} {A1 A2 : Option Addr} {c1 c2 : Nat} (h : RI W w sb b4 s t F A1 c1 A2 c2) (ht : Trn w sb s' F w') : ∃ F', RI W w' sb b4 s' t F' A1 c1 A2 c2 ∧ Keep F w w' ∧ ∀ k, F' k → F k ∨ w.heap.size ≤ k := by
  obtain ⟨F', h1, h2, h3⟩ := ht
  have ne : ∀ b, b < w.heap.size → ¬ F b → ¬ F' b := fun b hb hn hf => (h3 b hf).elim hn (fun hge => absurd hb (Nat.not_lt.2 hge))
  obtain ⟨d1, d2, d3⟩ := h.ds
  refine ⟨F', ⟨⟨h1, d2.trans (h2.below d2.size d3), fun k hk => (h3 k hk).elim (d3 k) (fun hge => Nat.le_trans d2.size hge)⟩, (h2.block _ (block_lt h.box) h.nf).trans h.box, ⟨own_same h.rf.r1 fun k hk => h2.block k (h.rf.r1.lt k hk).2 (h.gn k (.inl hk)), own_same h.rf.r2 fun k hk => h2.block k (h.rf.r2.lt k hk).2 (h.gn k (.inr hk))⟩,
    ne _ (block_lt h.box) h.nf, h.gb, fun b hb => ne b (hb.elim (fun hb => (h.rf.r1.lt b hb).2) (fun hb => (h.rf.r2.lt b hb).2)) (h.gn b hb)⟩, h2, h3⟩
theorem RI.below {W w w' : World} {sb b4 : Nat} {s t : Sc} {F : Nat → Prop} {A1 A2 : Option Addr} {c1 c2 : Nat} (h : RI W w sb b4 s t F A1 c1 A2 c2) (hb : Below w.heap.size w w') : RI W w' sb b4 s t F A1 c1 A2 c2 :=
  ⟨h.ds.below hb, (hb.block _ (block_lt h.box)).trans h.box, ⟨own_same h.rf.r1 fun k hk => hb.block k (h.rf.r1.lt k hk).2, own_same h.rf.r2 fun k hk => hb.block k (h.rf.r2.lt k hk).2⟩, h.nf, h.gb, h.gn⟩
theorem RI.isR {W w : World} {sb b4 : Nat} {s t : Sc} {F : Nat → Prop} {A1 A2 : Option Addr} {c1 c2 : Nat} (h : RI W w sb b4 s t F A1 c1 A2 c2) : IsR w (.agg #[.slice A1 t.ms.length c1, .slice A2 t.act.length c2]) t (fun k => ¬ F k) :=
  ⟨A1, c1, A2, c2, rfl, h.rf, h.gn⟩
/-- What the document made is laid into the box. -/
theorem RI.laid {W w w' : World} {sb b4 : Nat} {s t t' : Sc} {F : Nat → Prop} {A1 A2 B1 B2 : Option Addr} {c1 c2 e1 e2 : Nat} (h : RI W w sb b4 s t F A1 c1 A2 c2) (hb : Below w.heap.size w w') (hr : RF w' B1 e1 B2 e2 t')
    (hg : ∀ b, ((Value.slice B1 t'.ms.length e1).ownBlock = some b ∨ (Value.slice B2 t'.act.length e2).ownBlock = some b) → ¬ F b ∨ w.heap.size ≤ b) :
    RI W ((w'.setCell ⟨b4, 0, none⟩ (.slice B1 t'.ms.length e1)).setCell ⟨b4, 1, none⟩ (.slice B2 t'.act.length e2)) sb b4 s t' F B1 e1 B2 e2 := by
  have h2 := h.below hb
  have M := h2.box
  have M2 := hset_at w' b4 0 (.slice B1 t'.ms.length e1) M
  obtain ⟨d1, d2, d3⟩ := h2.ds
  obtain ⟨mb, D, bl, va, d1⟩ := d1
  refine ⟨⟨⟨mb, D, bl, va, d1.same fun k hk => (hset_other _ _ _ (fun e => h.nf (by have e : k = b4 := e; exact e ▸ hk))).trans (hset_other _ _ _ (fun e => h.nf (by have e : k = b4 := e; exact e ▸ hk)))⟩, (d2.setCell (p := ⟨b4, 0, none⟩) h.gb _).setCell (p := ⟨b4, 1, none⟩) h.gb _, d3⟩, ?_, ⟨own_box (own_box hr.r1 M (by decide) _ _) M2 (by decide) _ _, own_box (own_box hr.r2 M (by decide) _ _) M2 (by decide) _ _⟩, h.nf, h.gb, fun b hb2 hf => ?_⟩
  · have := hset_at _ b4 1 (.slice B2 t'.act.length e2) M2
    simpa using this
  · rcases hg b hb2 with h3 | h3
    · exact h3 hf
    · have := h.ds.1.lt b hf
      omega
/-- The act lies in a box of its own. -/
structure RA (w : World) (b4 b6 : Nat) (k x n : Int) (F : Nat → Prop) : Prop where
  ac : w.heap[b6]? = some (.cells #[.int .i64 k, .int .i64 x, .int .u64 n] 50 (0, 0))
  nf : ¬ F b6
  ne : b6 ≠ b4
theorem RA.turn {w w' : World} {b4 b6 : Nat} {k x n : Int} {F F' : Nat → Prop} (h : RA w b4 b6 k x n F) (hk : Keep F w w') (hF : ∀ k, F' k → F k ∨ w.heap.size ≤ k) : RA w' b4 b6 k x n F' :=
  ⟨(hk.block _ (block_lt h.ac) h.nf).trans h.ac, fun hf => (hF _ hf).elim h.nf (fun hge => absurd (block_lt h.ac) (Nat.not_lt.2 hge)), h.ne⟩
def RX (W : World) (sb b4 : Nat) (w : World) : Prop := ∃ s F A1 c1 A2 c2, RI W w sb b4 s s F A1 c1 A2 c2
end Go.Proofs.Ytliepgmjpbjhfaa.Drr
