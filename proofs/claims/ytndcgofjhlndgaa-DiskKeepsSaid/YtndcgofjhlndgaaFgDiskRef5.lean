/- Contracts of floodgateref07's Sync and Crash. Conditions: none beyond each lemma's own hypotheses. -/
import Derived.Test.YtndcgofjhlndgaaFgDiskRef4
set_option linter.unusedVariables false
set_option linter.unusedSimpArgs false
namespace Go.Proofs.Ytndcgofjhlndgaa.Disk
open Go.RowKit Go.Proofs.Ytndcgofjhlndgaa.Fg

theorem settle_congr {f f' : Nat → Bool} : ∀ (l : List (Nat × List Int)) (k : Nat) (st : List (List Int)), (∀ j, j < l.length → f (k + j) = f' (k + j)) → Dk.settle f k st l = Dk.settle f' k st l
  | [], _, _, _ => rfl
  | x :: r, k, st, h => by
    have h0 : f k = f' k := by have := h 0 (by simp); simpa using this
    rw [Dk.settle, Dk.settle, h0]
    exact settle_congr r (k + 1) _ (fun j hj => by have := h (j + 1) (by simp; omega); rw [show k + 1 + j = k + (j + 1) by omega]; exact this)
theorem settled_all (d : Dk) : Dk.settle (kf (List.replicate d.pd.length true)) 0 d.st d.pd = Dk.settle (fun _ => true) 0 d.st d.pd :=
  settle_congr _ _ _ (fun j hj => by simp [kf, hj])
theorem info_bool : (Try.prog.info? 4).map (fun i => (i.zero, i.size, i.bytes)) = some (some (.bool false), 1, 1) := by kernel_rfl
theorem IsRef.form {w : World} {v : Value} {d : Dk} {G : Nat → Prop} (h : IsRef w v d G) : ∃ C : Array Value, v = .agg C ∧ C.size = 5 ∧ C.all (·.oneCell') = true := by
  obtain ⟨A1, c1, A2, c2, lr, rfl, -⟩ := h
  exact ⟨_, rfl, rfl, by simp [rcells, Value.oneCell']⟩
/-- A disk's value stays where a block of disks turns. -/
theorem IsRef.boxed {w w' : World} {v : Value} {d : Dk} {G : Nat → Prop} (h : IsRef w v d G) {b : Nat} {cs : Array Value} {t : TypeId} {fr : Nat × Nat} (hb : w.heap[b]? = some (.cells cs t fr)) (h1 : t ≠ 25) (h2 : t ≠ 67)
    (hw : ∀ k, k < w.heap.size → k ≠ b → w'.heap[k]? = w.heap[k]?) : IsRef w' v d G := by
  obtain ⟨A1, c1, A2, c2, lr, e, r, g⟩ := h
  exact ⟨A1, c1, A2, c2, lr, e, r.boxed hb h1 h2 hw, g⟩
theorem IsRef.below {w w' : World} {v : Value} {d : Dk} {G : Nat → Prop} (h : IsRef w v d G) (hb : Below w.heap.size w w') : IsRef w' v d G := h.same fun k _ hk => hb.block k hk

def AllRel (w w2 : World) (C : Array Value) (j : Nat) (v : Value) (w' : World) : Prop :=
  w'.ownsRow w2.heap.size 4 1 v j (blv (List.replicate j true)) ∧ Below w2.heap.size w2 w'
set_option maxRecDepth 100000 in
set_option maxHeartbeats 2000000 in
theorem refsync_any {w : World} {v : Value} {d : Dk} {G : Nat → Prop} (h : IsRef w v d G) : Calls Try.prog 18 #[v] w (RefE w d.sync G d.actE) := by
  have H0 := Lib.hid h
  obtain ⟨C0, rfl, hc1, hc2⟩ := h.form
  have AC := Lib.hid (fun w1 hb => refact_any (h.below hb) : ∀ w1, Below w.heap.size w w1 → _)
  have hfew : d.pd.length ≤ 1000000 := by obtain ⟨_, _, _, _, _, _, r, _⟩ := h; exact r.few.2
  have B1 : Hid (Below w.heap.size w ((w.alloc (.cells C0 41)).alloc (.cells #[.slice none 0 0, .slice none 0 0, .bool false, .int .i64 0, .bool false] 41))) := Lib.hid (((Below.refl _ _).alloc (Nat.le_refl _) _).alloc (by simp) _)
  have K0 : Hid (((w.alloc (.cells C0 41)).alloc (.cells #[.slice none 0 0, .slice none 0 0, .bool false, .int .i64 0, .bool false] 41)).heap[w.heap.size]? = some (.cells C0 41)) := Lib.hid ((heap_alloc_old _ _ (by simp)).trans (heap_alloc_at w _))
  have K1 : Hid (((w.alloc (.cells C0 41)).alloc (.cells #[.slice none 0 0, .slice none 0 0, .bool false, .int .i64 0, .bool false] 41)).heap[w.heap.size + 1]? = some (.cells #[.slice none 0 0, .slice none 0 0, .bool false, .int .i64 0, .bool false] 41)) := Lib.hid (by
    have := heap_alloc_at (w.alloc (.cells C0 41)) (.cells #[.slice none 0 0, .slice none 0 0, .bool false, .int .i64 0, .bool false] 41)
    simpa using this)
  have U0 : Hid ((Try.prog.info? 41).map (·.size) = some C0.size) := Lib.hid (by rw [hc1]; exact info_rd)
  have HC1 := Lib.hid hc1
  clear h hc1 hc2
  go_enter Try.func18, Try.ntmps18
  go_upto_region 1 with fail
  generalize (w.alloc (.cells C0 41)).alloc (.cells #[.slice none 0 0, .slice none 0 0, .bool false, .int .i64 0, .bool false] 41) = w1 at *
  go_wp2_with (refine wpList_load_block rfl 41 (.tmp 1) rfl w.heap.size rfl C0 41 (0, 0) K0.out _ Try.underlying41 rfl U0.out ?_)
  refine (AC.out w1 B1.out).mono ?_
  rintro e w2 ⟨v2, rfl, h2, hb2⟩
  obtain ⟨C, rfl, hc1, hc2⟩ := h2.form
  have H2 := Lib.hid h2
  have B2 : Hid (Below w.heap.size w w2) := Lib.hid (B1.out.trans (hb2.mono B1.out.size))
  have L0 := Lib.hid ((hb2.block _ (block_lt K0.out)).trans K0.out)
  have L1 := Lib.hid ((hb2.block _ (block_lt K1.out)).trans K1.out)
  have hs1 := B1.out.size
  have U1 : Hid ((Try.prog.info? 41).map (·.size) = some C.size) := Lib.hid (by rw [hc1]; exact info_rd)
  have U2 : Hid (C0.size = C.size) := Lib.hid (by rw [hc1]; exact HC1.out)
  have U3 := Lib.hid hc2
  have U4 : Hid ((#[.slice none 0 0, .slice none 0 0, .bool false, .int .i64 0, .bool false] : Array Value).size = C.size) := Lib.hid (by rw [hc1]; rfl)
  have X0 := Lib.hid (setRow_at C L0.out)
  have X1 : Hid ((w2.setRow w.heap.size C).heap[w.heap.size + 1]? = some (.cells #[.slice none 0 0, .slice none 0 0, .bool false, .int .i64 0, .bool false] 41)) := Lib.hid ((setRow_other _ _ _ _ (by omega)).trans L1.out)
  have B3 := Lib.hid (below_setRow B2.out (Nat.le_refl _) C)
  have H3 : Hid (IsRef (w2.setRow w.heap.size C) (.agg C) d.act (fun k => G k ∨ w.heap.size ≤ k)) := Lib.hid ((h2.boxed L0.out (by decide) (by decide) (fun k hk hne => setRow_other _ _ _ _ hne)).mono (fun k _ hk => hk.imp id (fun h => by omega)))
  clear h2 hb2 hc1 hc2
  go_upto_region 2 with (refine wpList_store_block rfl 41 (.tmp 1) (.tmp 9) rfl w.heap.size C rfl rfl C0 41 L0.out U1.out U2.out U3.out ?_)
  generalize w2.setRow w.heap.size C = w3 at *
  by_cases ha : d.actE = 0
  · have hae : (d.actE != 0) = false := by simp [ha]
    have SY : Hid (d.sync = { d.act with st := Dk.settle (fun _ => true) 0 d.act.st d.act.pd, pd := [] }) := Lib.hid ((if_pos ha).trans (by rw [Dk.act_st, Dk.act_pd]))
    have EA := Lib.hid ha
    have PD : Hid (d.act.pd = d.pd) := Lib.hid (Dk.act_pd d)
    clear ha
    have y1 : ∃ A2 c2, w3.cell? ⟨w.heap.size, 1, none⟩ = some (.slice A2 d.pd.length c2) := by
      obtain ⟨A1, c1, A2, c2, lr, e, -⟩ := H3.out
      injection e with e
      refine ⟨A2, c2, ?_⟩
      rw [cell_of_block X0.out, e, rcells, PD.out]
      rfl
    obtain ⟨A2, c2, y1⟩ := y1
    have y2 : (w3.alloc (.cells #[] 4)).cell? ⟨w.heap.size, 1, none⟩ = some (.slice A2 d.pd.length c2) := (cell_of_block ((heap_alloc_old _ _ (block_lt X0.out)).trans X0.out) 1).trans ((cell_of_block X0.out 1).symm.trans y1)
    have hs3 := B3.out.size
    have ST : Hid (AllRel w w3 C 0 (.slice (some ⟨w3.heap.size, 0, none⟩) 0 0) (w3.alloc (.cells #[] 4))) := Lib.hid ⟨World.ownsRow_made w3 #[] 0 (Nat.le_refl _) (Nat.zero_le _) rfl, (Below.refl _ _).alloc (Nat.le_refl _) _⟩
    clear y1
    go_wp2_with fail
    go_loopg [5, 19] d.pd.length (fun k v n wr => ∃ j : Nat, j + k = d.pd.length ∧ n = .int .i64 j ∧ AllRel w w3 C j v wr)
    case atStart => exact ⟨0, Nat.zero_add _, rfl, ST.out⟩
    case round =>
      obtain ⟨j, hj, rfl, ho, hb⟩ := hrel
      obtain ⟨A9, c9, rfl, -⟩ := own_form ho
      have HO := Lib.hid ho
      have HB := Lib.hid hb
      have hs4 := hb.size
      clear ho hb y2
      by_cases hlt : j < d.pd.length
      · go_wp2_with (at_builtin; refine wpList_append_any rfl (.tmp 21) (.tmp 22) 33 rfl w3.heap.size 4 (.bool false) 1 1 Try.underlying33 info_bool rfl (by decide) (by decide) (.slice A9 j c9) j (blv (List.replicate j true)) rfl (HO.out.alloc _) (some ⟨wr.heap.size, 0, none⟩) 1 1 [.bool true] rfl (src_cell _ _ _) rfl ?a5 ?a6 ?a7 ?_)
        case a5 => simp [Value.oneCell']
        case a6 => omega
        case a7 => simp; omega
        intro v5 w5 ho5 hg5 _ hat5
        have NX : Hid (AllRel w w3 C (j + 1) v5 w5) := Lib.hid ⟨by
          rw [List.replicate_succ', blv, List.map_append]; exact ho5, (HB.out.alloc hs4 (.cells #[.bool true] 4)).grown hg5 (by simp; omega) (fun k hk => (HO.out.lt k hk).1)⟩
        clear ho5 hg5 hat5
        go_wp2_with fail
        go_roundg (gk - 1)
        case measure => omega
        case rel => exact ⟨j + 1, by omega, by go_num, NX.out⟩
      · have e : j = d.pd.length := by omega
        subst e
        have HO2 := HO
        have Y0 := Lib.hid ((HB.out.block _ (block_lt X0.out)).trans X0.out)
        have Y1 := Lib.hid ((HB.out.block _ (block_lt X1.out)).trans X1.out)
        have BR : Hid (Below w.heap.size w wr) := Lib.hid (B3.out.trans (HB.out.mono hs3))
        have hl : (List.replicate d.pd.length true).length = d.pd.length := List.length_replicate
        have SE := Lib.hid (settle_any (H3.out.below HB.out) (List.replicate d.pd.length true) A9 c9 (by rw [hl]; exact Fg.Src.of_own HO.out))
        rw [hl] at SE
        clear hl
        go_wp2_with (refine wpList_load_block rfl 41 (.tmp 1) rfl w.heap.size rfl C 41 (0, 0) Y0.out _ Try.underlying41 rfl U1.out ?_)
        refine SE.out.mono ?_
        rintro e w5 ⟨v5, rfl, h5, hb5⟩
        obtain ⟨C5, rfl, hc1, hc2⟩ := h5.form
        have B5 : Hid (Below w.heap.size w w5) := Lib.hid (BR.out.trans (hb5.mono BR.out.size))
        have L1' := Lib.hid ((hb5.block _ (block_lt Y1.out)).trans Y1.out)
        have V1 : Hid ((Try.prog.info? 41).map (·.size) = some C5.size) := Lib.hid (by rw [hc1]; exact info_rd)
        have V4 : Hid ((#[.slice none 0 0, .slice none 0 0, .bool false, .int .i64 0, .bool false] : Array Value).size = C5.size) := Lib.hid (by rw [hc1]; rfl)
        have V3 := Lib.hid hc2
        have M6 := Lib.hid (setRow_at C5 L1'.out)
        have B6 := Lib.hid (below_setRow B5.out (by omega : w.heap.size ≤ w.heap.size + 1) C5)
        have hws := BR.out.size
        have SE2 : Hid (d.sync = settled d.act (List.replicate d.pd.length true)) := Lib.hid (by rw [SY.out, settled, ← settled_all, PD.out])
        have H6 : Hid (IsRef (w5.setRow (w.heap.size + 1) C5) (.agg C5) d.sync (fun k => G k ∨ w.heap.size ≤ k)) := Lib.hid (by
          rw [SE2.out]
          exact (h5.boxed L1'.out (by decide) (by decide) (fun k hk hne => setRow_other _ _ _ _ hne)).mono (fun k _ hk => hk.elim id (fun h => .inr (by omega))))
        clear h5 hb5 hc1 hc2
        go_wp2_with (refine wpList_store_block rfl 41 (.tmp 2) (.tmp 27) rfl (w.heap.size + 1) C5 rfl rfl #[.slice none 0 0, .slice none 0 0, .bool false, .int .i64 0, .bool false] 41 L1'.out V1.out V4.out V3.out ?_)
        exact bodyPost_ret (v := .tuple #[.agg C5, .int .i64 0]) (res_cell_tmp Try.results18 _ _ (w.heap.size + 1) 41 _ (0, 0) _ _ rfl rfl M6.out Try.underlying41 rfl V1.out) rfl
          ⟨_, by rw [EA.out], H6.out, B6.out⟩
  · have hae : (d.actE != 0) = true := by simp [ha]
    have SY : Hid (d.sync = d.act) := Lib.hid (if_neg ha)
    have M6 := Lib.hid (setRow_at C X1.out)
    have B6 := Lib.hid (below_setRow B3.out (by omega : w.heap.size ≤ w.heap.size + 1) C)
    have H6 : Hid (IsRef (w3.setRow (w.heap.size + 1) C) (.agg C) d.act (fun k => G k ∨ w.heap.size ≤ k)) := Lib.hid (H3.out.boxed X1.out (by decide) (by decide) (fun k hk hne => setRow_other _ _ _ _ hne))
    clear ha
    go_wp2_with (first
      | refine wpList_load_block rfl 41 (.tmp 1) rfl w.heap.size rfl C 41 (0, 0) X0.out _ Try.underlying41 rfl U1.out ?_
      | refine wpList_store_block rfl 41 (.tmp 2) (.tmp 13) rfl (w.heap.size + 1) C rfl rfl #[.slice none 0 0, .slice none 0 0, .bool false, .int .i64 0, .bool false] 41 X1.out U1.out U4.out U3.out ?_)
    exact bodyPost_ret (v := .tuple #[.agg C, .int .i64 d.actE]) (res_cell_tmp Try.results18 _ _ (w.heap.size + 1) 41 _ (0, 0) _ _ rfl rfl M6.out Try.underlying41 rfl U1.out) rfl
      ⟨_, rfl, by rw [SY.out]; exact H6.out, B6.out⟩
theorem refcrash_any {w : World} {v : Value} {d : Dk} {G : Nat → Prop} (h : IsRef w v d G) (l : List Bool) (A : Option Addr) (c : Nat) (hs : Fg.Src w A l.length c (blv l)) :
    Calls Try.prog 20 #[v, .slice A l.length c] w (RefD w (d.crash l) G) := by
  obtain ⟨C0, rfl, hc1, hc2⟩ := h.form
  have AC := Lib.hid (fun w1 hb => settle_any (h.below hb) l A c (hs.same fun ad had hne => hb.block _ (hs.lt had hne)) : ∀ w1, Below w.heap.size w w1 → _)
  have B1 : Hid (Below w.heap.size w ((w.alloc (.cells C0 41)).alloc (.cells #[.slice none 0 0, .slice none 0 0, .bool false, .int .i64 0, .bool false] 41))) := Lib.hid (((Below.refl _ _).alloc (Nat.le_refl _) _).alloc (by simp) _)
  have K0 : Hid (((w.alloc (.cells C0 41)).alloc (.cells #[.slice none 0 0, .slice none 0 0, .bool false, .int .i64 0, .bool false] 41)).heap[w.heap.size]? = some (.cells C0 41)) := Lib.hid ((heap_alloc_old _ _ (by simp)).trans (heap_alloc_at w _))
  have K1 : Hid (((w.alloc (.cells C0 41)).alloc (.cells #[.slice none 0 0, .slice none 0 0, .bool false, .int .i64 0, .bool false] 41)).heap[w.heap.size + 1]? = some (.cells #[.slice none 0 0, .slice none 0 0, .bool false, .int .i64 0, .bool false] 41)) := Lib.hid (by
    have := heap_alloc_at (w.alloc (.cells C0 41)) (.cells #[.slice none 0 0, .slice none 0 0, .bool false, .int .i64 0, .bool false] 41)
    simpa using this)
  have U0 : Hid ((Try.prog.info? 41).map (·.size) = some C0.size) := Lib.hid (by rw [hc1]; exact info_rd)
  have HC1 := Lib.hid hc1
  clear h hc1 hc2 hs
  go_enter Try.func20, Try.ntmps20
  go_upto_region 1 with fail
  generalize (w.alloc (.cells C0 41)).alloc (.cells #[.slice none 0 0, .slice none 0 0, .bool false, .int .i64 0, .bool false] 41) = w1 at *
  go_wp2_with (refine wpList_load_block rfl 41 (.tmp 2) rfl w.heap.size rfl C0 41 (0, 0) K0.out _ Try.underlying41 rfl U0.out ?_)
  refine (AC.out w1 B1.out).mono ?_
  rintro e w2 ⟨v2, rfl, h2, hb2⟩
  obtain ⟨A3, c3, A4, c4, lr3, rfl, r3, g3⟩ := h2
  have R3 := Lib.hid r3
  have B2 : Hid (Below w.heap.size w w2) := Lib.hid (B1.out.trans (hb2.mono B1.out.size))
  have L0 := Lib.hid ((hb2.block _ (block_lt K0.out)).trans K0.out)
  have L1 := Lib.hid ((hb2.block _ (block_lt K1.out)).trans K1.out)
  have hs1 := B1.out.size
  obtain ⟨n, hn⟩ : ∃ n, (settled d l).st.length = n := ⟨_, rfl⟩
  obtain ⟨C, hC⟩ : ∃ C, rcells A3 c3 A4 c4 lr3 (settled d l) = C := ⟨_, rfl⟩
  have hC0 : C[0]? = some (.slice A3 n c3) := by rw [← hC, ← hn]; rfl
  have hc1 : C.size = 5 := by rw [← hC]; rfl
  have U1 : Hid ((Try.prog.info? 41).map (·.size) = some C.size) := Lib.hid (by rw [hc1]; exact info_rd)
  have U2 : Hid (C0.size = C.size) := Lib.hid (by rw [hc1]; exact HC1.out)
  have U3 : Hid (C.all (·.oneCell') = true) := Lib.hid (by rw [← hC]; simp [rcells, Value.oneCell'])
  have X0 := Lib.hid (setRow_at C L0.out)
  have X1 : Hid ((w2.setRow w.heap.size C).heap[w.heap.size + 1]? = some (.cells #[.slice none 0 0, .slice none 0 0, .bool false, .int .i64 0, .bool false] 41)) := Lib.hid ((setRow_other _ _ _ _ (by omega)).trans L1.out)
  have B3 := Lib.hid (below_setRow B2.out (Nat.le_refl _) C)
  have c0 : (w2.setRow w.heap.size C).cell? ⟨w.heap.size, 0, none⟩ = some (.slice A3 n c3) := (cell_of_block X0.out 0).trans hC0
  have O3 : Hid ((w2.setRow w.heap.size C).ownsRow 0 25 64 (.slice A3 n c3) n (sv (settled d l).st).flatten) := Lib.hid (by
    have := (r3.boxed (w' := w2.setRow w.heap.size C) L0.out (by decide) (by decide) (fun k hk hne => setRow_other _ _ _ _ hne)).st
    rw [hn] at this
    exact this)
  have G3 := Lib.hid g3
  have OK3 := Lib.hid r3.ok
  have FW := Lib.hid r3.few
  have HN := Lib.hid hn
  rw [hC]
  clear r3 g3 hb2 hc1 hC hC0 hn
  go_upto_region 2 with (refine wpList_store_block rfl 41 (.tmp 2) (.tmp 7) rfl w.heap.size C rfl rfl C0 41 L0.out U1.out U2.out U3.out ?_)
  generalize w2.setRow w.heap.size C = w3 at *
  have V1 : Hid ((Try.prog.info? 41).map (·.size) = some (#[.slice A3 n c3, .slice none 0 0, .bool false, .int .i64 0, .bool false] : Array Value).size) := Lib.hid info_rd
  have V3 : Hid ((#[.slice A3 n c3, .slice none 0 0, .bool false, .int .i64 0, .bool false] : Array Value).all (·.oneCell') = true) := Lib.hid (by simp [Value.oneCell'])
  have M6 := Lib.hid (setRow_at #[.slice A3 n c3, .slice none 0 0, .bool false, .int .i64 0, .bool false] X1.out)
  have B6 := Lib.hid (below_setRow B3.out (by omega : w.heap.size ≤ w.heap.size + 1) #[.slice A3 n c3, .slice none 0 0, .bool false, .int .i64 0, .bool false])
  go_wp2_with (refine wpList_store_block rfl 41 (.tmp 4) (.tmp 10) rfl (w.heap.size + 1) #[.slice A3 n c3, .slice none 0 0, .bool false, .int .i64 0, .bool false] rfl rfl #[.slice none 0 0, .slice none 0 0, .bool false, .int .i64 0, .bool false] 41 X1.out V1.out rfl V3.out ?_)
  refine bodyPost_ret (v := .agg #[.slice A3 n c3, .slice none 0 0, .bool false, .int .i64 0, .bool false]) (res_cell Try.results20 _ _ (w.heap.size + 1) 41 _ (0, 0) _ rfl M6.out Try.underlying41 rfl V1.out) rfl ⟨_, rfl, ⟨A3, c3, none, 0, 0, ?_, ⟨?_, ?_, ?_, World.ownsRow_nil _ _ _ _, ?_, by omega⟩, ?_⟩, B6.out⟩
  · have e : (d.crash l).st.length = n := HN.out
    rw [rcells, e]
    rfl
  · exact ⟨OK3.out.sec, (fun x hx => by cases hx), by simp [Dk.crash]⟩
  · exact ⟨FW.out.1, by show ([] : List (Nat × List Int)).length ≤ _; simp⟩
  · have e : (d.crash l).st.length = n := HN.out
    rw [e]
    exact own_same O3.out fun k hk => setRow_other _ _ _ _ (own_ne O3.out hk X1.out (by decide))
  · intro h
    have h' : (0 : Int) ≤ -1 := h
    omega
  · rintro k (⟨a, ha, rfl⟩ | ⟨a, ha, rfl⟩)
    · rcases G3.out _ (.inl ⟨a, ha, rfl⟩) with h | h
      · exact .inl h
      · right; omega
    · cases ha
end Go.Proofs.Ytndcgofjhlndgaa.Disk
