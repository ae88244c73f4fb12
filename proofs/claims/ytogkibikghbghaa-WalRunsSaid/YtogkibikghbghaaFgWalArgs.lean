/- The arguments of the wal laws: acts and bools that came in. Conditions: none beyond each lemma's own hypotheses. -/
import Derived.Test.YtogkibikghbghaaFgDiskNew
import Derived.Deep.Grids
import Derived.Deep.SlicePairs
set_option linter.unusedVariables false
set_option linter.unusedSimpArgs false
namespace Go.Proofs.Ytogkibikghbghaa.Disk
open Go.RowKit Go.Proofs.Ytogkibikghbghaa.Fg Go.ChangeShapes Go.WideShapes Go.ChangeAt

set_option maxRecDepth 100000 in
theorem open_bools_arg {H : Type} {enc : TypeId × Value → H} {w : World} {held : Bool} {v : Value} {d : DataW H} {p : List MemPlace} {b0 : Nat} {r : Reach}
    (hv : Value.okWide Try.prog w r b0 43 v) (h : DataW.Trod enc Try.prog w 0 (fun _ => true) held 43 v d p) :
    ∃ (A : Option Addr) (c : Nat) (l : List Bool), v = .slice A l.length c ∧ Fg.Src w A l.length c (blv l) := by
  obtain ⟨a0, len0, cap0, rfl⟩ := okWide_slice Try.underlying43 hv
  obtain ⟨fuel, hf⟩ := h
  have hf' : DataW.trod enc Try.prog w 0 (fun _ => true) held fuel 43 [.slice a0 len0 cap0] = some (d, p) := hf
  rcases Go.Deep.open_bools Try.underlying43 Try.underlying4 (by kernel_rfl) hf' with ⟨hcs, _⟩ | ⟨a, len, cap, B, hcs, _, hl, hm, _, hcell⟩
  · injection hcs with hcs
    rw [hcs]
    exact ⟨none, 0, [], rfl, ⟨fun _ => ⟨rfl, rfl⟩, Nat.le_refl _, by simp [maxLen], fun _ h => by cases h⟩⟩
  · injection hcs with hcs
    have hll : ((List.range len).map B).length = len := by simp
    refine ⟨some a, cap, (List.range len).map B, by rw [hcs, hll], ⟨(fun h => by cases h), by rw [hll]; exact hl, hm, fun ad had j u hu => ?_⟩⟩
    injection had with had
    subst had
    have hj : j < len := by
      have := (List.getElem?_eq_some_iff.1 hu).1
      simpa [blv] using this
    rw [hcell j (by omega), ← hu]
    simp [blv, hj]

set_option maxRecDepth 100000 in
set_option maxHeartbeats 1000000 in
/-- An act. -/
structure Act1 where
  kind : Int
  at_ : Int
  byte : Int
  keep : List Bool
instance : Inhabited Act1 := ⟨⟨0, 0, 0, []⟩⟩
structure Acts (W : World) (A : Option Addr) (acts : List Act1) : Prop where
  nil : A = none → acts = []
  each : ∀ (i : Nat) (a : Act1), acts[i]? = some a → ∃ (b o : Nat) (A' : Option Addr) (c : Nat), A = some ⟨b, o, none⟩ ∧ W.rangeAt b (o + i * 4) [.int .i64 a.kind, .int .i64 a.at_, .int .u8 a.byte, .slice A' a.keep.length c] ∧
    Fg.Src W A' a.keep.length c (blv a.keep) ∧ b < W.heap.size ∧ (-9223372036854775808 ≤ a.at_ ∧ a.at_ ≤ 9223372036854775807) ∧ a.keep.length ≤ 140737488355328
set_option maxRecDepth 100000 in
set_option maxHeartbeats 1000000 in
theorem open_acts {H : Type} {enc : TypeId × Value → H} {w : World} {held : Bool} {v : Value} {d : DataW H} {p : List MemPlace} {b0 : Nat} {r : Reach}
    (hv : Value.okWide Try.prog w r b0 42 v) (h : DataW.Trod enc Try.prog w 0 (fun _ => true) held 42 v d p) (hw : ∀ n ∈ d.weights Try.prog 42, n ≤ reachBytes) :
    ∃ (A : Option Addr) (c : Nat) (acts : List Act1), v = .slice A acts.length c ∧ acts.length ≤ c ∧ c ≤ maxLen ∧ Acts w A acts := by
  obtain ⟨a0, len0, cap0, rfl⟩ := okWide_slice Try.underlying42 hv
  obtain ⟨fuel, hf⟩ := h
  have hf' : DataW.trod enc Try.prog w 0 (fun _ => true) held fuel 42 [.slice a0 len0 cap0] = some (d, p) := hf
  rcases Go.Deep.open_slice Try.underlying42 hf' with ⟨hcs, _⟩ | ⟨a, len, cap, m, n, D, Pl, hcs, _, hl, hm, hmm, hx, hel⟩
  · injection hcs with hcs
    rw [hcs]
    exact ⟨none, 0, [], rfl, Nat.le_refl _, by simp [maxLen], ⟨fun _ => rfl, fun i a hi => by simp at hi⟩⟩
  · injection hcs with hcs
    rw [hcs]
    have hce : Try.prog.cellsOf 45 = 4 := by kernel_rfl
    have c1 : Try.prog.cellsOf 3 = 1 := by kernel_rfl
    have c2 : Try.prog.cellsOf 5 = 1 := by kernel_rfl
    have c3 : Try.prog.cellsOf 43 = 1 := by kernel_rfl
    rw [hce] at hel
    have hlm : len ≤ m := by rw [hmm]; split <;> omega
    have each : ∀ i, i < len → ∃ q : Act1, ∃ (A' : Option Addr) (c : Nat), (∀ j v, ([.int .i64 q.kind, .int .i64 q.at_, .int .u8 q.byte, .slice A' q.keep.length c] : List Value)[j]? = some v → w.cell? ((a.add (i * 4)).add j) = some v) ∧
        Fg.Src w A' q.keep.length c (blv q.keep) ∧ (-9223372036854775808 ≤ q.at_ ∧ q.at_ ≤ 9223372036854775807) ∧ q.keep.length ≤ 140737488355328 := by
      intro i hi
      obtain ⟨cs', h1, h2⟩ := hel i (by omega)
      obtain ⟨_, hlen, hcell⟩ := World.cells?_some h1
      obtain ⟨k0, k1, k2, k3, rfl⟩ : ∃ k0 k1 k2 k3, cs' = [k0, k1, k2, k3] := by
        match cs', hlen with
        | [k0, k1, k2, k3], _ => exact ⟨_, _, _, _, rfl⟩
      obtain ⟨y0, y1, y2, y3, n', hDi, _, t0, t1, t2, t3⟩ := Go.Joins.trod_struct4 Try.underlying45 h2
      simp only [c1, c2, c3, List.drop_zero, List.drop_succ_cons, List.take_succ_cons, List.take_zero] at t0 t1 t2 t3
      obtain ⟨z0, e0, _, w0⟩ := DataW.trod_int Try.underlying3 t0
      obtain ⟨z1, e1, _, w1⟩ := DataW.trod_int Try.underlying3 t1
      obtain ⟨z2, e2, _, w2⟩ := DataW.trod_int Try.underlying5 t2
      have e0' : k0 = .int .i64 z0 := by simpa using e0
      have e1' : k1 = .int .i64 z1 := by simpa using e1
      have e2' : k2 = .int .u8 z2 := by simpa using e2
      have hDi' : D i = .agg [y0.1, y1.1, y2.1, y3.1] := congrArg Prod.fst hDi
      have hws : ∀ n ∈ y3.1.weights Try.prog 43, n ≤ reachBytes := by
        intro n hn
        refine hw _ ?_
        have hd : d = .slice ((List.range len).map D) ((List.range (m - len)).map fun j => D (len + j)) := congrArg Prod.fst hx
        rw [hd]
        simp only [DataW.weights, Try.underlying42]
        refine List.mem_cons_of_mem _ (List.mem_append_left _ ?_)
        have mem : ∀ (l : List Nat), i ∈ l → n ∈ DataW.weightsAll Try.prog 45 (l.map D) := by
          intro l
          induction l with
          | nil => intro h; cases h
          | cons x l ih =>
            intro h
            simp only [List.map_cons, DataW.weightsAll]
            rcases List.mem_cons.1 h with rfl | h
            · refine List.mem_append_left _ ?_
              rw [hDi']
              simp only [DataW.weights, Try.underlying45, DataW.weightsEach, List.map_cons, List.map_nil]
              exact List.mem_append_right _ (List.mem_append_right _ (List.mem_append_right _ (List.mem_append_left _ hn)))
            · exact List.mem_append_right _ (ih h)
        exact mem _ (by simpa using hi)
      have hb : ∃ (A' : Option Addr) (c : Nat) (l : List Bool), k3 = .slice A' l.length c ∧ Fg.Src w A' l.length c (blv l) ∧ l.length ≤ 140737488355328 := by
        rcases Go.Deep.open_bools Try.underlying43 Try.underlying4 (by kernel_rfl) t3 with ⟨hcs, _⟩ | ⟨a', len', cap', B, hcs, _, hl', hm', hy3, hcell'⟩
        · injection hcs with hcs
          exact ⟨none, 0, [], hcs, ⟨fun _ => ⟨rfl, rfl⟩, Nat.le_refl _, by simp [maxLen], fun _ h => by cases h⟩, by simp⟩
        · injection hcs with hcs
          have hll : ((List.range len').map B).length = len' := by simp
          have hb8 : Try.prog.bytesOf 4 = 1 := by kernel_rfl
          have hlr : len' ≤ reachBytes := by
            have := hws (len' + (cap' - len')) (by
              rw [hy3]
              simp only [Go.Deep.boolRow, DataW.weights, Try.underlying43, hb8, List.length_map, List.length_range, Nat.mul_one]
              exact List.mem_cons_self)
            omega
          refine ⟨some a', cap', (List.range len').map B, by rw [hcs, hll], ⟨(fun h => by cases h), by rw [hll]; exact hl', hm', fun ad had j u hu => ?_⟩, by rw [hll]; have h1 := reachBytes_lt; omega⟩
          injection had with had
          subst had
          have hj : j < len' := by
            have := (List.getElem?_eq_some_iff.1 hu).1
            simpa [blv] using this
          rw [hcell' j (by omega), ← hu]
          simp [blv, hj]
      obtain ⟨A', c, l, e3, hsrc, hlb⟩ := hb
      have hmin : IntKind.i64.min = -9223372036854775808 := rfl
      have hmax : IntKind.i64.max = 9223372036854775807 := rfl
      refine ⟨⟨z0, z1, z2, l⟩, A', c, fun j v hv => ?_, hsrc, by simpa only [Lit.wf, Bool.and_eq_true, decide_eq_true_eq, hmin, hmax] using w1, hlb⟩
      have hj : j < 4 := by
        have := (List.getElem?_eq_some_iff.1 hv).1
        simpa using this
      rw [hcell j hj, e0', e1', e2', e3]
      exact hv
    obtain ⟨Q, hQ⟩ := Go.Deep.choose_lt (α := Act1) (p := fun i q => ∃ (A' : Option Addr) (c : Nat), (∀ j v, ([.int .i64 q.kind, .int .i64 q.at_, .int .u8 q.byte, .slice A' q.keep.length c] : List Value)[j]? = some v → w.cell? ((a.add (i * 4)).add j) = some v) ∧
        Fg.Src w A' q.keep.length c (blv q.keep) ∧ (-9223372036854775808 ≤ q.at_ ∧ q.at_ ≤ 9223372036854775807) ∧ q.keep.length ≤ 140737488355328) each
    refine ⟨some a, cap, (List.range len).map Q, by simp, by simpa using hl, hm, ⟨(fun h => by cases h), fun i q hi => ?_⟩⟩
    have hi' : i < len := by
      have := (List.getElem?_eq_some_iff.1 hi).1
      simpa using this
    have hq : Q i = q := by simpa [List.getElem?_map, List.getElem?_range hi'] using hi
    obtain ⟨A', c, q1, q2, q3, q4⟩ := hQ i hi'
    rw [hq] at q1 q2 q3 q4
    have hs0' : a.spot = none := by
      obtain ⟨A0, c0, p1, _⟩ := hQ 0 (by omega)
      have z := p1 0 _ rfl
      simp only [Nat.zero_mul, Addr.add_zero'] at z
      unfold World.cell? at z
      split at z
      · by_cases hs : a.spot.isSome = true
        · rw [if_pos hs] at z; cases z
        · cases hsp : a.spot with
          | none => rfl
          | some x => rw [hsp] at hs; exact absurd rfl hs
      · cases z
    have z0 := q1 0 _ rfl
    obtain ⟨b, o, s⟩ := a
    have hs0 : s = none := hs0'
    subst hs0
    rw [Addr.add_lit] at q1 z0
    refine ⟨b, o, A', c, rfl, fun j v hv => ?_, q2, ?_, q3, q4⟩
    · have := q1 j v hv
      rw [Addr.add_lit] at this
      exact this
    · have := World.block_lt_of_cell? w _ z0
      simpa [Addr.add_zero'] using this

theorem Acts.below {W w : World} {A : Option Addr} {acts : List Act1} (h : Acts W A acts) (hb : Below W.heap.size W w) : Acts w A acts :=
  ⟨h.nil, fun i a hi => by
    obtain ⟨b, o, A', c, h1, h2, h3, h4, h5⟩ := h.each i a hi
    exact ⟨b, o, A', c, h1, fun j v hv => (hb.cell (p := ⟨b, o + i * 4 + j, none⟩) h4).trans (h2 j v hv), h3.same (fun ad had hne => hb.block _ (h3.lt had hne)), by have := hb.size; omega, h5⟩⟩

set_option maxRecDepth 100000 in
set_option maxHeartbeats 1000000 in
/-- As crash_any; a slice of no bools may lie anywhere. -/
theorem crash_any0 {w : World} {g : Nat} {d : Dk} {F : Nat → Prop} (h : IsDisk w g d F) (l : List Bool) (A : Option Addr) (c : Nat) (hs : Fg.Src w A l.length c (blv l)) (hn : ∀ ad, A = some ad → l ≠ [] → ¬ F ad.block) :
    Calls Try.prog 17 #[.pointer (some ⟨g, 0, none⟩), .slice A l.length c] w fun e w' => e = .returned (.tuple #[]) ∧ Turned w g (d.crash l) F w' := by
  have hent := fun (args : Array Value) (w : World) => enters (P := Try.prog) Try.func42 (by decide) rfl args w
  have HE := Lib.hid hent
  have H0 := Lib.hid h
  have H1 := Lib.hid (h.below ((Below.refl _ _).alloc (Nat.le_refl _) (.cells #[.slice A l.length c] 43)))
  have B1 : Hid (Below w.heap.size w (w.alloc (.cells #[.slice A l.length c] 43))) := Lib.hid ((Below.refl _ _).alloc (Nat.le_refl _) _)
  have K0 := Lib.hid (heap_alloc_at w (.cells #[.slice A l.length c] 43))
  have HS := Lib.hid hs
  have HN := Lib.hid hn
  have hmf : ∀ (fn : Fn) (first cap : Array Value) (w : World), (Instr.makeFunc fn first cap).run Try.prog w = .ok (.func fn first cap) w := fun _ _ _ _ => rfl
  clear h hs hn hent
  go_enter Try.func17, Try.ntmps17
  go_wp2_with fail
  generalize w.alloc (.cells #[.slice A l.length c] 43) = w1 at *
  refine (keep_any H1.out (fun j => l.getD j false) _ #[.pointer (some ⟨w.heap.size, 0, none⟩)] HE.out (fun S w' j hSF hk _ => crash1_any l A c w.heap.size j w' ?_ ?_)).mono ?_
  · have h1 : Fg.Src w1 A l.length c (blv l) := HS.out.same fun ad had hne => B1.out.block _ (HS.out.lt had hne)
    by_cases hl : l = []
    · subst hl
      exact ⟨h1.nil, h1.cap, h1.most, (fun _ _ _ _ hu => by simp [blv] at hu)⟩
    · exact h1.keep hk (fun ad had hS => HN.out ad had hl (hSF _ hS))
  · exact (hk.cell (p := ⟨w.heap.size, 0, none⟩) (block_lt K0.out) (fun hS => Nat.lt_irrefl _ (H0.out.lt _ (hSF _ hS)))).trans (cell_of_block K0.out 0)
  rintro e w2 ⟨rfl, F2, h2, k2, f2⟩
  have H2 := Lib.hid h2
  have K2 := Lib.hid k2
  have F2' := Lib.hid f2
  obtain ⟨⟨sb, vp, i1, -⟩, -⟩ := h2
  have c2 : w2.cell? ⟨g, 2, none⟩ = some (.int .i64 d.left) := cell_of_block i1.head 2
  have c3 : w2.cell? ⟨g, 3, none⟩ = some (.bool d.down) := cell_of_block i1.head 3
  have g2 := free_of_block i1.head 2
  have g3 := free_of_block i1.head 3
  clear k2 f2 i1 hmf
  go_wp2_with fail
  go_end0
  have ht := H2.out.set2 (d' := d.crash l) (Dk.crash_ok H0.out.ok l) rfl rfl
  have k1 : Keep F w w1 := Keep.of_new B1.out
  refine ⟨rfl, Turned.trans (k1.trans K2.out (fun i hi h => h)) (fun k hk => ?_) ht⟩
  rcases F2'.out k hk with h | h
  · exact .inl h
  · right; have := k1.size; omega
end Go.Proofs.Ytogkibikghbghaa.Disk
