/- The acts that a law of the disk layer is given; a disk and the document's disk side by side. Conditions: none beyond each lemma's own hypotheses. -/
import Derived.Test.YtndcgofjhlndgaaFgDiskBreaks1
import Derived.Test.YtndcgofjhlndgaaFgDiskRef6
set_option linter.unusedVariables false
set_option linter.unusedSimpArgs false
namespace Go.Proofs.Ytndcgofjhlndgaa.Disk
open Go.RowKit Go.Proofs.Ytndcgofjhlndgaa.Fg Go.ChangeShapes Go.WideShapes Go.ChangeAt

/-- An act. -/
structure Act1 where
  kind : Int
  at_ : Int
  byte : Int
  keep : List Bool
instance : Inhabited Act1 := ⟨⟨0, 0, 0, []⟩⟩
structure Acts (W : World) (A : Option Addr) (acts : List Act1) : Prop where
  nil : A = none → acts = []
  each : ∀ (i : Nat) (a : Act1), acts[i]? = some a → ∃ (b o : Nat) (A' : Option Addr) (c : Nat), A = some ⟨b, o, none⟩ ∧ W.rangeAt b (o + i * 4) [.int .i64 a.kind, .int .i64 a.at_, .int .u8 a.byte, .slice A' a.keep.length c] ∧
    Fg.Src W A' a.keep.length c (blv a.keep) ∧ b < W.heap.size ∧ (-9223372036854775808 ≤ a.at_ ∧ a.at_ ≤ 9223372036854775807) ∧ a.keep.length ≤ 140737488355328
theorem open_acts {H : Type} {enc : TypeId × Value → H} {w : World} {held : Bool} {v : Value} {d : DataW H} {p : List MemPlace} {b0 : Nat} {r : Reach}
    (hv : Value.okWide Try.prog w r b0 37 v) (h : DataW.Trod enc Try.prog w 0 (fun _ => true) held 37 v d p) (hw : ∀ n ∈ d.weights Try.prog 37, n ≤ reachBytes) :
    ∃ (A : Option Addr) (c : Nat) (acts : List Act1), v = .slice A acts.length c ∧ acts.length ≤ c ∧ c ≤ maxLen ∧ Acts w A acts := by
  obtain ⟨a0, len0, cap0, rfl⟩ := okWide_slice Try.underlying37 hv
  obtain ⟨fuel, hf⟩ := h
  have hf' : DataW.trod enc Try.prog w 0 (fun _ => true) held fuel 37 [.slice a0 len0 cap0] = some (d, p) := hf
  rcases Go.Deep.open_slice Try.underlying37 hf' with ⟨hcs, _⟩ | ⟨a, len, cap, m, n, D, Pl, hcs, _, hl, hm, hmm, hx, hel⟩
  · injection hcs with hcs
    rw [hcs]
    exact ⟨none, 0, [], rfl, Nat.le_refl _, by simp [maxLen], ⟨fun _ => rfl, fun i a hi => by simp at hi⟩⟩
  · injection hcs with hcs
    rw [hcs]
    have hce : Try.prog.cellsOf 44 = 4 := by kernel_rfl
    have c1 : Try.prog.cellsOf 3 = 1 := by kernel_rfl
    have c2 : Try.prog.cellsOf 5 = 1 := by kernel_rfl
    have c3 : Try.prog.cellsOf 33 = 1 := by kernel_rfl
    rw [hce] at hel
    have hlm : len ≤ m := by rw [hmm]; split <;> omega
    have each : ∀ i, i < len → ∃ q : Act1, ∃ (A' : Option Addr) (c : Nat), (∀ j v, ([.int .i64 q.kind, .int .i64 q.at_, .int .u8 q.byte, .slice A' q.keep.length c] : List Value)[j]? = some v → w.cell? ((a.add (i * 4)).add j) = some v) ∧
        Fg.Src w A' q.keep.length c (blv q.keep) ∧ (-9223372036854775808 ≤ q.at_ ∧ q.at_ ≤ 9223372036854775807) ∧ q.keep.length ≤ 140737488355328 := by
      intro i hi
      obtain ⟨cs', h1, h2⟩ := hel i (by omega)
      obtain ⟨_, hlen, hcell⟩ := World.cells?_some h1
      obtain ⟨k0, k1, k2, k3, rfl⟩ : ∃ k0 k1 k2 k3, cs' = [k0, k1, k2, k3] := by
        match cs', hlen with
        | [k0, k1, k2, k3], _ => exact ⟨_, _, _, _, rfl⟩
      obtain ⟨y0, y1, y2, y3, n', hDi, _, t0, t1, t2, t3⟩ := Go.Joins.trod_struct4 Try.underlying44 h2
      simp only [c1, c2, c3, List.drop_zero, List.drop_succ_cons, List.take_succ_cons, List.take_zero] at t0 t1 t2 t3
      obtain ⟨z0, e0, _, w0⟩ := DataW.trod_int Try.underlying3 t0
      obtain ⟨z1, e1, _, w1⟩ := DataW.trod_int Try.underlying3 t1
      obtain ⟨z2, e2, _, w2⟩ := DataW.trod_int Try.underlying5 t2
      have e0' : k0 = .int .i64 z0 := by simpa using e0
      have e1' : k1 = .int .i64 z1 := by simpa using e1
      have e2' : k2 = .int .u8 z2 := by simpa using e2
      have hDi' : D i = .agg [y0.1, y1.1, y2.1, y3.1] := congrArg Prod.fst hDi
      have hws : ∀ n ∈ y3.1.weights Try.prog 33, n ≤ reachBytes := by
        intro n hn
        refine hw _ ?_
        have hd : d = .slice ((List.range len).map D) ((List.range (m - len)).map fun j => D (len + j)) := congrArg Prod.fst hx
        rw [hd]
        simp only [DataW.weights, Try.underlying37]
        refine List.mem_cons_of_mem _ (List.mem_append_left _ ?_)
        have mem : ∀ (l : List Nat), i ∈ l → n ∈ DataW.weightsAll Try.prog 44 (l.map D) := by
          intro l
          induction l with
          | nil => intro h; cases h
          | cons x l ih =>
            intro h
            simp only [List.map_cons, DataW.weightsAll]
            rcases List.mem_cons.1 h with rfl | h
            · refine List.mem_append_left _ ?_
              rw [hDi']
              simp only [DataW.weights, Try.underlying44, DataW.weightsEach, List.map_cons, List.map_nil]
              exact List.mem_append_right _ (List.mem_append_right _ (List.mem_append_right _ (List.mem_append_left _ hn)))
            · exact List.mem_append_right _ (ih h)
        exact mem _ (by simpa using hi)
      have hb : ∃ (A' : Option Addr) (c : Nat) (l : List Bool), k3 = .slice A' l.length c ∧ Fg.Src w A' l.length c (blv l) ∧ l.length ≤ 140737488355328 := by
        rcases Go.Deep.open_bools Try.underlying33 Try.underlying4 (by kernel_rfl) t3 with ⟨hcs, _⟩ | ⟨a', len', cap', B, hcs, _, hl', hm', hy3, hcell'⟩
        · injection hcs with hcs
          exact ⟨none, 0, [], hcs, ⟨fun _ => ⟨rfl, rfl⟩, Nat.le_refl _, by simp [maxLen], fun _ h => by cases h⟩, by simp⟩
        · injection hcs with hcs
          have hll : ((List.range len').map B).length = len' := by simp
          have hb8 : Try.prog.bytesOf 4 = 1 := by kernel_rfl
          have hlr : len' ≤ reachBytes := by
            have := hws (len' + (cap' - len')) (by
              rw [hy3]
              simp only [Go.Deep.boolRow, DataW.weights, Try.underlying33, hb8, List.length_map, List.length_range, Nat.mul_one]
              exact List.mem_cons_self)
            omega
          refine ⟨some a', cap', (List.range len').map B, by rw [hcs, hll], ⟨(fun h => by cases h), by rw [hll]; exact hl', hm', fun ad had j u hu => ?_⟩, by rw [hll]; have h1 := reachBytes_lt; omega⟩
          injection had with had
          subst had
          have hj : j < len' := by
            have := (List.getElem?_eq_some_iff.1 hu).1
            simpa [blv] using this
          rw [hcell' j (by omega), ← hu]
          simp [blv, hj]
      obtain ⟨A', c, l, e3, hsrc, hlb⟩ := hb
      have hmin : IntKind.i64.min = -9223372036854775808 := rfl
      have hmax : IntKind.i64.max = 9223372036854775807 := rfl
      refine ⟨⟨z0, z1, z2, l⟩, A', c, fun j v hv => ?_, hsrc, by simpa only [Lit.wf, Bool.and_eq_true, decide_eq_true_eq, hmin, hmax] using w1, hlb⟩
      have hj : j < 4 := by
        have := (List.getElem?_eq_some_iff.1 hv).1
        simpa using this
      rw [hcell j hj, e0', e1', e2', e3]
      exact hv
    obtain ⟨Q, hQ⟩ := Go.Deep.choose_lt (α := Act1) (p := fun i q => ∃ (A' : Option Addr) (c : Nat), (∀ j v, ([.int .i64 q.kind, .int .i64 q.at_, .int .u8 q.byte, .slice A' q.keep.length c] : List Value)[j]? = some v → w.cell? ((a.add (i * 4)).add j) = some v) ∧
        Fg.Src w A' q.keep.length c (blv q.keep) ∧ (-9223372036854775808 ≤ q.at_ ∧ q.at_ ≤ 9223372036854775807) ∧ q.keep.length ≤ 140737488355328) each
    refine ⟨some a, cap, (List.range len).map Q, by simp, by simpa using hl, hm, ⟨(fun h => by cases h), fun i q hi => ?_⟩⟩
    have hi' : i < len := by
      have := (List.getElem?_eq_some_iff.1 hi).1
      simpa using this
    have hq : Q i = q := by simpa [List.getElem?_map, List.getElem?_range hi'] using hi
    obtain ⟨A', c, q1, q2, q3, q4⟩ := hQ i hi'
    rw [hq] at q1 q2 q3 q4
    have hs0' : a.spot = none := by
      obtain ⟨A0, c0, p1, _⟩ := hQ 0 (by omega)
      have z := p1 0 _ rfl
      simp only [Nat.zero_mul, Addr.add_zero'] at z
      unfold World.cell? at z
      split at z
      · by_cases hs : a.spot.isSome = true
        · rw [if_pos hs] at z; cases z
        · cases hsp : a.spot with
          | none => rfl
          | some x => rw [hsp] at hs; exact absurd rfl hs
      · cases z
    have z0 := q1 0 _ rfl
    obtain ⟨b, o, s⟩ := a
    have hs0 : s = none := hs0'
    subst hs0
    rw [Addr.add_lit] at q1 z0
    refine ⟨b, o, A', c, rfl, fun j v hv => ?_, q2, ?_, q3, q4⟩
    · have := q1 j v hv
      rw [Addr.add_lit] at this
      exact this
    · have := World.block_lt_of_cell? w _ z0
      simpa [Addr.add_zero'] using this

theorem Acts.below {W w : World} {A : Option Addr} {acts : List Act1} (h : Acts W A acts) (hb : Below W.heap.size W w) : Acts w A acts :=
  ⟨h.nil, fun i a hi => by
    obtain ⟨b, o, A', c, h1, h2, h3, h4, h5⟩ := h.each i a hi
    exact ⟨b, o, A', c, h1, fun j v hv => (hb.cell (p := ⟨b, o + i * 4 + j, none⟩) h4).trans (h2 j v hv), h3.same (fun ad had hne => hb.block _ (h3.lt had hne)), by have := hb.size; omega, h5⟩⟩

/-- The disk (d), and the document's disk (r) in block wb. -/
structure R0 (W w : World) (g wb : Nat) (d r : Dk) (F : Nat → Prop) (C : Array Value) : Prop where
  ld : LD W w g d F
  hwb : w.heap[wb]? = some (.cells C 41)
  ref : IsRef w (.agg C) r (fun k => W.heap.size ≤ k ∧ ¬ F k)
  nw : ¬ F wb ∧ W.heap.size ≤ wb
/-- Beside them some block that stays. -/
structure RN (W w : World) (g wb ab : Nat) (O : Obj) (d r : Dk) (F : Nat → Prop) (C : Array Value) : Prop where
  r : R0 W w g wb d r F C
  hab : w.heap[ab]? = some O
  na : ¬ F ab ∧ ab ≠ wb
theorem R0.turn {W w w' : World} {g wb : Nat} {d d' r : Dk} {F : Nat → Prop} {C : Array Value} (h : R0 W w g wb d r F C) (t : Turned w g d' F w') : ∃ F', R0 W w' g wb d' r F' C ∧ Keep F w w' ∧ ∀ k, F' k → F k ∨ w.heap.size ≤ k := by
  obtain ⟨F', l, k, hF⟩ := h.ld.turn t
  have h1 : IsRef w (.agg C) r (fun k => (W.heap.size ≤ k ∧ ¬ F k) ∧ ¬ F' k) := h.ref.mono fun i hlt hi => ⟨hi, fun hF' => by
    rcases hF i hF' with h1 | h1
    · exact hi.2 h1
    · omega⟩
  refine ⟨F', ⟨l, (k.block _ (block_lt h.hwb) h.nw.1).trans h.hwb, (h1.same (fun i hi hlt => k.block i hlt hi.1.2)).mono (fun i _ hi => ⟨hi.1.1, hi.2⟩), ⟨?_, h.nw.2⟩⟩, k, hF⟩
  intro hF'
  rcases hF wb hF' with h1 | h1
  · exact h.nw.1 h1
  · have := block_lt h.hwb; omega
theorem R0.later {W w w' : World} {g wb : Nat} {d r : Dk} {F : Nat → Prop} {C : Array Value} (h : R0 W w g wb d r F C) (hb : Below w.heap.size w w') : R0 W w' g wb d r F C :=
  ⟨h.ld.later hb, (hb.block _ (block_lt h.hwb)).trans h.hwb, h.ref.below hb, h.nw⟩
/-- The document's disk is laid into its block. -/
theorem r0_set {W w w' : World} {g wb : Nat} {d r' : Dk} {F : Nat → Prop} {C0 C' : Array Value} (h : LD W w g d F) (nw : ¬ F wb ∧ W.heap.size ≤ wb) (hb : Below w.heap.size w w') (hwb : w'.heap[wb]? = some (.cells C0 41))
    (hr : IsRef w' (.agg C') r' (fun k => (W.heap.size ≤ k ∧ ¬ F k) ∨ w.heap.size ≤ k)) : R0 W (w'.setRow wb C') g wb d r' F C' := by
  have h1 := h.later hb
  have same : ∀ k, k ≠ wb → (w'.setRow wb C').heap[k]? = w'.heap[k]? := fun k hk => setRow_other _ _ _ _ hk
  refine ⟨⟨h1.disk.same (fun k hk => same k (fun e => nw.1 (e ▸ hk))), below_setRow h1.below nw.2 _, h.base⟩, setRow_at _ hwb, ?_, nw⟩
  refine (hr.boxed hwb (by decide) (by decide) (fun k _ hk => same k hk)).mono (fun k hlt hk => ?_)
  rcases hk with hk | hk
  · exact hk
  · exact ⟨by have := h.below.size; omega, fun hF => by have := h.disk.lt k hF; omega⟩
theorem RN.turn {W w w' : World} {g wb ab : Nat} {O : Obj} {d d' r : Dk} {F : Nat → Prop} {C : Array Value} (h : RN W w g wb ab O d r F C) (t : Turned w g d' F w') : ∃ F', RN W w' g wb ab O d' r F' C ∧ Keep F w w' ∧ ∀ k, F' k → F k ∨ w.heap.size ≤ k := by
  obtain ⟨F', l, k, hF⟩ := h.r.turn t
  refine ⟨F', ⟨l, (k.block _ (block_lt h.hab) h.na.1).trans h.hab, ⟨?_, h.na.2⟩⟩, k, hF⟩
  intro hF'
  rcases hF ab hF' with h1 | h1
  · exact h.na.1 h1
  · have := block_lt h.hab; omega
theorem RN.later {W w w' : World} {g wb ab : Nat} {O : Obj} {d r : Dk} {F : Nat → Prop} {C : Array Value} (h : RN W w g wb ab O d r F C) (hb : Below w.heap.size w w') : RN W w' g wb ab O d r F C :=
  ⟨h.r.later hb, (hb.block _ (block_lt h.hab)).trans h.hab, h.na⟩
theorem RN.set {W w w' : World} {g wb ab : Nat} {O : Obj} {d r r' : Dk} {F : Nat → Prop} {C C' : Array Value} (h : RN W w g wb ab O d r F C) (hb : Below w.heap.size w w') (hr : IsRef w' (.agg C') r' (fun k => (W.heap.size ≤ k ∧ ¬ F k) ∨ w.heap.size ≤ k)) :
    RN W (w'.setRow wb C') g wb ab O d r' F C' :=
  ⟨r0_set h.r.ld h.r.nw hb ((hb.block _ (block_lt h.r.hwb)).trans h.r.hwb) hr, (setRow_other _ _ _ _ h.na.2).trans ((hb.block _ (block_lt h.hab)).trans h.hab), h.na⟩

theorem same_any (pd : List (Nat × List Int)) (A1 A2 : Option Addr) (c1 c2 : Nat) (w : World) (hn : pd.length ≤ 1000000) (h1 : Fg.Src w A1 pd.length c1 (atv pd)) (h2 : RowsAt w A2 65 (pd.map wrow)) :
    Calls Try.prog 22 #[.slice A1 pd.length c1, .slice A2 pd.length c2] w fun e w' => e = .returned (.bool true) ∧ ∃ q, w' = w.drewN q := by
  have HS := Lib.hid h1
  have HR := Lib.hid h2
  clear h1 h2
  go_enter Try.func22, Try.ntmps22
  go_wp2_with fail
  go_loopg [13] pd.length (fun k v wr => ∃ j : Nat, j + k = pd.length ∧ v = .int .i64 j ∧ ∃ q, wr = w.drewN q)
  case atStart => exact ⟨0, Nat.zero_add _, rfl, 0, rfl⟩
  case round =>
    obtain ⟨j, hj, rfl, q, rfl⟩ := hrel
    by_cases hlt : j < pd.length
    · obtain ⟨x, hx⟩ : ∃ x, pd[j]? = some x := ⟨_, List.getElem?_eq_getElem hlt⟩
      obtain ⟨p, rfl, hp1, hp2⟩ := HR.out j (wrow x) (by rw [List.getElem?_map, hx]; rfl)
      have q0 : w.cell? ⟨p, j * 65, none⟩ = some (.int .i64 x.1) := hp2 0 _ rfl
      cases A1 with
      | none => have := (HS.out.nil rfl).1; omega
      | some ad =>
        have q1 : w.cell? (ad.add j) = some (.int .i64 x.1) := HS.out.cells ad rfl j _ (by rw [atv, List.getElem?_map, hx]; rfl)
        have hlt' : (j : Int) < (pd.length : Int) := by omega
        have h0 : (0 : Int) ≤ (j : Int) := by omega
        clear hx hp2
        go_upto_region 6 with fail
        go_quiet (fail)
        go_wp2_with fail
        go_roundg (gk - 1)
        case measure => omega
        case rel => exact ⟨j + 1, by omega, by go_num, _, rfl⟩
    · go_wp2_with fail
      go_ret
      exact ⟨rfl, q, rfl⟩
end Go.Proofs.Ytndcgofjhlndgaa.Disk
