/- Contracts of floodgateref07's Put and settle. Conditions: none beyond each lemma's own hypotheses. -/
import Derived.Test.YtndcgofjhlndgaaFgDiskRef2
set_option linter.unusedVariables false
set_option linter.unusedSimpArgs false
namespace Go.Proofs.Ytndcgofjhlndgaa.Disk
open Go.RowKit Go.Proofs.Ytndcgofjhlndgaa.Fg

theorem rwrZero : (Try.prog.info? 67).map (·.zero) = some (some (.agg (.int .i64 0 :: bv noSec).toArray)) := by kernel_rfl
theorem rwrSize : (Try.prog.info? 67).map (·.size) = some 65 := by kernel_rfl
theorem rwrInfo : (Try.prog.info? 67).map (fun i => (i.zero, i.size, i.bytes)) = some (some (.agg (.int .i64 0 :: bv noSec).toArray), 65, 72) := by kernel_rfl
theorem rwrInfo2 : (Try.prog.info? 67).map (fun i => (i.zero, i.size)) = some (some (.agg (.int .i64 0 :: bv noSec).toArray), 65) := by kernel_rfl
theorem rwrBuilt (n : Nat) (s : List Int) (hs : s.length = 64) : Try.prog.built 67 [(0, .int .i64 n), (1, .agg (bv s).toArray)] = some (wrow (n, s)).toArray := by
  have hp : ((Try.prog.fieldsOf 67).toList.mapM fun f => (Try.prog.info? f.type).map fun i => (f.offset, i.size)) = some [(0, 1), (1, 64)] := by kernel_rfl
  rw [built_struct rwrZero (Try.underlying67) hp]
  rw [fill_one 0 1 rfl rfl (by simp [Value.cells, noSec, bv]), fill_one 1 64 rfl (by simp [Value.cells, bv, hs]) (by simp [Value.cells, noSec, bv, lay])]
  simp only [Instr.fill, Option.some.injEq]
  congr 1
  simp [lay, Value.cells, wrow, bv, noSec, hs]
theorem own_ne {w : World} {base : Nat} {e : TypeId} {size n : Nat} {v : Value} {xs : List Value} (h : w.ownsRow base e size v n xs) {k b : Nat} (hk : v.ownBlock = some k) {cs : Array Value} {t : TypeId} {fr : Nat × Nat} (hb : w.heap[b]? = some (.cells cs t fr)) (ht : t ≠ e) : k ≠ b :=
  fun e' => ht (own_type h hk (e' ▸ hb))
/-- Where a block that is no row of the disk's turns, the disk stays. -/
theorem RV.boxed {w w' : World} {A1 A2 : Option Addr} {c1 c2 : Nat} {lr : Int} {d : Dk} (h : RV w A1 c1 A2 c2 lr d) {b : Nat} {cs : Array Value} {t : TypeId} {fr : Nat × Nat} (hb : w.heap[b]? = some (.cells cs t fr)) (h1 : t ≠ 25) (h2 : t ≠ 67)
    (hw : ∀ k, k < w.heap.size → k ≠ b → w'.heap[k]? = w.heap[k]?) : RV w' A1 c1 A2 c2 lr d :=
  ⟨h.ok, h.few, own_same h.st fun k hk => hw k (h.st.lt k hk).2 (own_ne h.st hk hb h1), own_same h.pd fun k hk => hw k (h.pd.lt k hk).2 (own_ne h.pd hk hb h2), h.eq, h.wf⟩
theorem pv_one (l : List (Nat × List Int)) : ∀ u ∈ (pv l).flatten, u.oneCell' = true := by
  intro u hu
  obtain ⟨r, hr, hu⟩ := List.mem_flatten.1 hu
  obtain ⟨x, hx, rfl⟩ := List.mem_map.1 hr
  rcases List.mem_cons.1 hu with rfl | hu
  · rfl
  · exact bv_one _ u hu
theorem wrow_one' (x : Nat × List Int) : ∀ u ∈ wrow x, u.oneCell' = true := by
  intro u hu
  rcases List.mem_cons.1 hu with rfl | hu
  · rfl
  · exact bv_one _ u hu
theorem sv_one (l : List (List Int)) : ∀ u ∈ (sv l).flatten, u.oneCell' = true := by
  intro u hu
  obtain ⟨r, hr, hu⟩ := List.mem_flatten.1 hu
  obtain ⟨x, hx, rfl⟩ := List.mem_map.1 hr
  exact bv_one _ u hu
theorem info_rd : (Try.prog.info? 41).map (·.size) = some 5 := by kernel_rfl

set_option maxRecDepth 100000 in
set_option maxHeartbeats 2000000 in
theorem refput_any {w : World} {v : Value} {d : Dk} {G : Nat → Prop} (h : IsRef w v d G) (i : Int) (s : List Int) (hs : s.length = 64) (hn : d.pd.length < 1000000) :
    Calls Try.prog 17 #[v, .int .i64 i, .agg (bv s).toArray] w (RefE w (d.put i s) G (d.putE i)) := by
  obtain ⟨A1, c1, A2, c2, lr, rfl, h1, h2⟩ := h
  have H1 := Lib.hid h1
  have H2 := Lib.hid h2
  have HS := Lib.hid hs
  have HN := Lib.hid hn
  clear h1 h2 hs hn
  by_cases hd : d.there i = true
  · have hb : 0 ≤ i ∧ i < (d.st.length : Int) := by simpa [Dk.there] using hd
    obtain ⟨hb0, hb1⟩ := hb
    obtain ⟨n, rfl⟩ := Int.eq_ofNat_of_zero_le hb0
    have hn : n < d.st.length := by omega
    have PE : Hid (d.putE n = d.actE) := Lib.hid (if_pos hd)
    have PP : Hid (d.put n s = if d.actE = 0 then { d.act with pd := d.pd ++ [(n, s)] } else d.act) := Lib.hid (if_pos hd)
    clear hd
    obtain ⟨q, hq⟩ : ∃ q, decide (0 ≤ d.left) = q := ⟨_, rfl⟩
    have HQ := Lib.hid hq
    unfold rcells
    rw [hq]
    clear hq
    have B1 : Hid (Below w.heap.size w (((w.alloc (.cells #[.slice A1 d.st.length c1, .slice A2 d.pd.length c2, .bool q, .int .i64 lr, .bool d.down] 41)).alloc (.cells (bv s).toArray 25)).alloc (.cells #[.slice none 0 0, .slice none 0 0, .bool false, .int .i64 0, .bool false] 41))) := Lib.hid ((((Below.refl _ _).alloc (Nat.le_refl _) _).alloc (by simp) _).alloc (by simp; omega) _)
    have K3 : Hid ((((w.alloc (.cells #[.slice A1 d.st.length c1, .slice A2 d.pd.length c2, .bool q, .int .i64 lr, .bool d.down] 41)).alloc (.cells (bv s).toArray 25)).alloc (.cells #[.slice none 0 0, .slice none 0 0, .bool false, .int .i64 0, .bool false] 41)).heap[w.heap.size]? = some (.cells #[.slice A1 d.st.length c1, .slice A2 d.pd.length c2, .bool q, .int .i64 lr, .bool d.down] 41)) := Lib.hid ((heap_alloc_old _ _ (by simp; omega)).trans ((heap_alloc_old _ _ (by simp)).trans (heap_alloc_at w _)))
    have K5 : Hid ((((w.alloc (.cells #[.slice A1 d.st.length c1, .slice A2 d.pd.length c2, .bool q, .int .i64 lr, .bool d.down] 41)).alloc (.cells (bv s).toArray 25)).alloc (.cells #[.slice none 0 0, .slice none 0 0, .bool false, .int .i64 0, .bool false] 41)).heap[w.heap.size + 1]? = some (.cells (bv s).toArray 25)) := Lib.hid ((heap_alloc_old _ _ (by simp)).trans (by
      have := heap_alloc_at (w.alloc (.cells #[.slice A1 d.st.length c1, .slice A2 d.pd.length c2, .bool q, .int .i64 lr, .bool d.down] 41)) (.cells (bv s).toArray 25)
      simpa using this))
    have K6 : Hid ((((w.alloc (.cells #[.slice A1 d.st.length c1, .slice A2 d.pd.length c2, .bool q, .int .i64 lr, .bool d.down] 41)).alloc (.cells (bv s).toArray 25)).alloc (.cells #[.slice none 0 0, .slice none 0 0, .bool false, .int .i64 0, .bool false] 41)).heap[w.heap.size + 1 + 1]? = some (.cells #[.slice none 0 0, .slice none 0 0, .bool false, .int .i64 0, .bool false] 41)) := Lib.hid (by
      have := heap_alloc_at ((w.alloc (.cells #[.slice A1 d.st.length c1, .slice A2 d.pd.length c2, .bool q, .int .i64 lr, .bool d.down] 41)).alloc (.cells (bv s).toArray 25)) (.cells #[.slice none 0 0, .slice none 0 0, .bool false, .int .i64 0, .bool false] 41)
      simpa using this)
    have AC := Lib.hid (fun w1 hb => refact_any (w := w1) (v := .agg #[.slice A1 d.st.length c1, .slice A2 d.pd.length c2, .bool q, .int .i64 lr, .bool d.down]) (d := d) (G := G) ⟨A1, c1, A2, c2, lr, by rw [rcells, HQ.out], H1.out.below hb, H2.out⟩ : ∀ w1, Below w.heap.size w w1 → _)
    go_enter Try.func17, Try.ntmps17
    go_wp2_with fail
    generalize (((w.alloc (.cells #[.slice A1 d.st.length c1, .slice A2 d.pd.length c2, .bool q, .int .i64 lr, .bool d.down] 41)).alloc (.cells (bv s).toArray 25)).alloc (.cells #[.slice none 0 0, .slice none 0 0, .bool false, .int .i64 0, .bool false] 41)) = w1 at *
    refine (AC.out w1 B1.out).mono ?_
    rintro e w2 ⟨v2, rfl, ⟨A3, c3, A4, c4, lr2, rfl, r2, g2⟩, hb2⟩
    have R2 := Lib.hid r2
    have G2 := Lib.hid g2
    have B2 := Lib.hid hb2
    have D2 : Hid (Below w.heap.size w w2) := Lib.hid (B1.out.trans (hb2.mono B1.out.size))
    have L3 := Lib.hid ((hb2.block _ (block_lt K3.out)).trans K3.out)
    have L5 := Lib.hid ((hb2.block _ (block_lt K5.out)).trans K5.out)
    have L6 := Lib.hid ((hb2.block _ (block_lt K6.out)).trans K6.out)
    have S3 : Hid (w2.heap[w.heap.size]? = some (.cells #[.slice A1 d.st.length c1, .slice A2 d.pd.length c2, .bool q, .int .i64 lr, .bool d.down] 41) → (w2.setRow w.heap.size (rcells A3 c3 A4 c4 lr2 d.act)).heap[w.heap.size]? = some (.cells (rcells A3 c3 A4 c4 lr2 d.act) 41)) := Lib.hid (fun h => setRow_at _ h)
    have HST : Hid (d.act.st = d.st) := Lib.hid (Dk.act_st d)
    have HPD : Hid (d.act.pd = d.pd) := Lib.hid (Dk.act_pd d)
    have W1 := Lib.hid (info_rd.trans (by rfl : (some 5 : Option Nat) = some (rcells A3 c3 A4 c4 lr2 d.act).size))
    have W2 : Hid ((#[.slice A1 d.st.length c1, .slice A2 d.pd.length c2, .bool q, .int .i64 lr, .bool d.down] : Array Value).size = (rcells A3 c3 A4 c4 lr2 d.act).size) := Lib.hid rfl
    have W3 : Hid ((rcells A3 c3 A4 c4 lr2 d.act).all (·.oneCell') = true) := Lib.hid (by simp [rcells, Value.oneCell'])
    have X3 := Lib.hid (S3.out L3.out)
    have BB := Lib.hid (below_setRow D2.out (Nat.le_refl _) (rcells A3 c3 A4 c4 lr2 d.act))
    have X5 : Hid ((w2.setRow w.heap.size (rcells A3 c3 A4 c4 lr2 d.act)).heap[w.heap.size + 1]? = some (.cells (bv s).toArray 25)) := Lib.hid ((setRow_other _ _ _ _ (by omega)).trans L5.out)
    have X6 : Hid ((w2.setRow w.heap.size (rcells A3 c3 A4 c4 lr2 d.act)).heap[w.heap.size + 1 + 1]? = some (.cells #[.slice none 0 0, .slice none 0 0, .bool false, .int .i64 0, .bool false] 41)) := Lib.hid ((setRow_other _ _ _ _ (by omega)).trans L6.out)
    have RX : Hid (RV (w2.setRow w.heap.size (rcells A3 c3 A4 c4 lr2 d.act)) A3 c3 A4 c4 lr2 d.act) := Lib.hid (r2.boxed L3.out (by decide) (by decide) (fun k hk hne => setRow_other _ _ _ _ hne))
    clear r2 g2 hb2 S3
    go_upto_region 4 with (refine wpList_store_block rfl 41 (.tmp 3) (.tmp 23) rfl w.heap.size (rcells A3 c3 A4 c4 lr2 d.act) rfl rfl #[.slice A1 d.st.length c1, .slice A2 d.pd.length c2, .bool q, .int .i64 lr, .bool d.down] 41 L3.out W1.out W2.out W3.out ?_)
    generalize w2.setRow w.heap.size (rcells A3 c3 A4 c4 lr2 d.act) = w3 at *
    by_cases ha : d.actE = 0
    · have hae : (d.actE == 0) = true := beq_iff_eq.2 ha
      have PP' : Hid (d.put n s = { d.act with pd := d.act.pd ++ [(n, s)] }) := Lib.hid ((PP.out.trans (if_pos ha)).trans (by rw [HPD.out]))
      have hm : d.act.pd.length < 1000000 := by rw [HPD.out]; exact HN.out
      have x1 : (w3.alloc (.cells #[] 67)).cell? ⟨w.heap.size, 1, none⟩ = some (.slice A4 d.act.pd.length c4) := cell_of_block ((heap_alloc_old _ _ (block_lt X3.out)).trans X3.out) 1
      have HL1 := Lib.hid RX.out.pd.1
      have hws := BB.out.size
      have HLT3 := Lib.hid (block_lt X3.out)
      have HLT5 := Lib.hid (block_lt X5.out)
      have HLT6 := Lib.hid (block_lt X6.out)
      have HA0 := Lib.hid ha
      clear ha hb1
      go_wp2_with (at_builtin; refine wpList_append_any rfl (.tmp 27) (.tmp 29) 39 rfl w3.heap.size 67 (.agg (.int .i64 0 :: bv noSec).toArray) 65 72 Try.underlying39 rwrInfo rfl (by decide) (by decide) (.slice (some ⟨w3.heap.size, 0, none⟩) 0 0) 0 [] rfl ?a1 A4 d.act.pd.length c4 (pv d.act.pd).flatten rfl ?a2 HL1.out (pv_one _) ?a5 ?a6 ?_)
      case a1 => exact World.ownsRow_made w3 #[] 0 (Nat.le_refl _) (Nat.zero_le _) rfl
      case a2 => exact Fg.Src.of_own (RX.out.pd.alloc _)
      case a5 => omega
      intro v9 w4 ho9 hg9 _ _
      try simp only [Nat.zero_add, List.nil_append] at ho9
      obtain ⟨A9, c9, rfl, -⟩ := own_form ho9
      have HO9 := Lib.hid ho9
      have B4 : Hid (Below w3.heap.size w3 w4) := Lib.hid (((Below.refl _ _).alloc (Nat.le_refl _) (.cells #[] 67)).grown hg9 (by simp) (by simp [Value.ownBlock]))
      have Y5 := Lib.hid ((B4.out.block _ HLT5.out).trans X5.out)
      have hs4 := B4.out.size
      have Z1 := Lib.hid (sec_toArray HS.out)
      have Z2 := Lib.hid (rwrBuilt n s HS.out)
      have Z3 : Hid ((Value.agg (wrow (n, s)).toArray).cells.size = 65) := Lib.hid (by simp [Value.cells, wrow_len (x := (n, s)) HS.out])
      have Z4 : Hid ((wrow (n, s)).length = 1 * 65) := Lib.hid (wrow_len (x := (n, s)) HS.out)
      clear ho9 hg9
      go_wp2_with (first
        | refine wpList_load_block rfl 25 (.tmp 5) rfl (w.heap.size + 1) rfl (bv s).toArray 25 (0, 0) Y5.out _ secUnder rfl Z1.out ?_
        | refine wpList_build_list rfl 67 #[(0, .tmp 32), (1, .tmp 33)] rfl [(0, .int .i64 n), (1, .agg (bv s).toArray)] rfl (wrow (n, s)).toArray Z2.out ?_
        | refine wpList_slice_one rfl 39 67 (.tmp 34) rfl 65 (.agg (.int .i64 0 :: bv noSec).toArray) (.agg (wrow (n, s)).toArray) rfl Try.underlying39 rwrInfo2 (by decide) (by decide) Z3.out ?_
        | (at_builtin; refine wpList_append_any rfl (.tmp 31) (.tmp 35) 39 rfl w3.heap.size 67 (.agg (.int .i64 0 :: bv noSec).toArray) 65 72 Try.underlying39 rwrInfo rfl (by decide) (by decide) (.slice A9 d.act.pd.length c9) d.act.pd.length (pv d.act.pd).flatten rfl (HO9.out.alloc _) (some ⟨w4.heap.size, 0, none⟩) 1 1 (wrow (n, s)) rfl (src_rows _ _ _ 1 (by decide)) Z4.out (wrow_one' _) ?b5 ?b6 ?_))
      case b5 => omega
      case b6 => simp; omega
      intro v36 w5 ho5 hg5 _ _
      obtain ⟨A5, c5, rfl, -⟩ := own_form ho5
      have HO5 := Lib.hid ho5
      have B5 : Hid (Below w3.heap.size w3 w5) := Lib.hid ((B4.out.alloc hs4 (.cells (wrow (n, s)).toArray 67)).grown hg5 (by simp; omega) (fun k hk => (HO9.out.lt k hk).1))
      have Y3 := Lib.hid ((B5.out.block _ HLT3.out).trans X3.out)
      have Y6 := Lib.hid ((B5.out.block _ HLT6.out).trans X6.out)
      have y1 : w5.cell? ⟨w.heap.size, 1, none⟩ = some (.slice A4 d.act.pd.length c4) := cell_of_block Y3.out 1
      have f1 := free_of_block Y3.out 1
      have V3 := Lib.hid (hset_at w5 w.heap.size 1 (.slice A5 (d.act.pd.length + 1) c5) Y3.out)
      have V6 : Hid ((w5.setCell ⟨w.heap.size, 1, none⟩ (.slice A5 (d.act.pd.length + 1) c5)).heap[w.heap.size + 1 + 1]? = some (.cells #[.slice none 0 0, .slice none 0 0, .bool false, .int .i64 0, .bool false] 41)) := Lib.hid ((hset_other _ _ _ (by show w.heap.size + 1 + 1 ≠ w.heap.size; omega)).trans Y6.out)
      have BW : Hid (Below w.heap.size w (w5.setCell ⟨w.heap.size, 1, none⟩ (.slice A5 (d.act.pd.length + 1) c5))) := Lib.hid ((BB.out.trans (B5.out.mono hws)).setCell (p := ⟨w.heap.size, 1, none⟩) (Nat.le_refl _) _)
      obtain ⟨C, hC⟩ : ∃ C, (rcells A3 c3 A4 c4 lr2 d.act).setIfInBounds 1 (.slice A5 (d.act.pd.length + 1) c5) = C := ⟨_, rfl⟩
      rw [hC] at V3
      have hC2 : C = rcells A3 c3 A5 c5 lr2 (d.put n s) := by
        rw [← hC, PP'.out, rcells, rcells]
        simp
      have HC2 := Lib.hid hC2
      have U1 : Hid ((Try.prog.info? 41).map (·.size) = some C.size) := Lib.hid (by rw [hC2]; exact info_rd)
      have U2 : Hid ((#[.slice none 0 0, .slice none 0 0, .bool false, .int .i64 0, .bool false] : Array Value).size = C.size) := Lib.hid (by rw [hC2]; rfl)
      have U3 : Hid (C.all (·.oneCell') = true) := Lib.hid (by rw [hC2]; simp [rcells, Value.oneCell'])
      have B6 := Lib.hid (below_setRow BW.out (by omega : w.heap.size ≤ w.heap.size + 1 + 1) C)
      have M6 := Lib.hid (setRow_at C V6.out)
      have RF : Hid (RV ((w5.setCell ⟨w.heap.size, 1, none⟩ (.slice A5 (d.act.pd.length + 1) c5)).setRow (w.heap.size + 1 + 1) C) A3 c3 A5 c5 lr2 (d.put n s)) := Lib.hid (by
        have r5 : RV w5 A3 c3 A4 c4 lr2 d.act := RX.out.below B5.out
        have ok' := Dk.put_ok r5.ok n HS.out
        have hst : (d.put n s).st = d.act.st := by rw [PP'.out]
        have hpd : (d.put n s).pd = d.act.pd ++ [(n, s)] := by rw [PP'.out]
        have hlf : (d.put n s).left = d.act.left := by rw [PP'.out]
        have e : (pv (d.act.pd ++ [(n, s)])).flatten = (pv d.act.pd).flatten ++ wrow (n, s) := by simp [pv, wrow]
        have same : ∀ k, k ≠ w.heap.size → k ≠ w.heap.size + 1 + 1 → ((w5.setCell ⟨w.heap.size, 1, none⟩ (.slice A5 (d.act.pd.length + 1) c5)).setRow (w.heap.size + 1 + 1) C).heap[k]? = w5.heap[k]? := fun k h1 h2 => (setRow_other _ _ _ _ h2).trans (hset_other _ _ _ h1)
        refine ⟨?_, ?_, ?_, ?_, ?_, r5.wf⟩
        · rw [PP'.out]
          refine ⟨r5.ok.sec, ?_, r5.ok.left⟩
          intro y hy
          rcases List.mem_append.1 hy with hy | hy
          · exact r5.ok.at_ y hy
          · rw [List.mem_singleton.1 hy]
            exact ⟨by show n < d.act.st.length; rw [HST.out]; exact hn, HS.out⟩
        · rw [hst, hpd]; exact ⟨r5.few.1, by simp; omega⟩
        · rw [hst]; exact own_same r5.st fun k hk => same k (own_ne r5.st hk Y3.out (by decide)) (own_ne r5.st hk Y6.out (by decide))
        · rw [hpd, e, List.length_append]
          exact own_same (own_base HO5.out (Nat.zero_le _)) fun k hk => same k (own_ne HO5.out hk Y3.out (by decide)) (own_ne HO5.out hk Y6.out (by decide))
        · rw [hlf]; exact r5.eq)
      have GG : Hid (∀ k, blks A3 A5 k → G k ∨ w.heap.size ≤ k) := Lib.hid (fun k hk => by
        rcases hk with ⟨a, ha, rfl⟩ | ⟨a, ha, rfl⟩
        · rcases G2.out _ (.inl ⟨a, ha, rfl⟩) with h | h
          · exact .inl h
          · right; have := B1.out.size; omega
        · right
          have := (HO5.out.lt a.block (by rw [ha]; rfl)).1
          omega)
      clear ho5 hg5 hC hC2
      go_wp2_with (first
        | refine wpList_load_block rfl 41 (.tmp 3) rfl w.heap.size rfl C 41 (0, 0) V3.out _ Try.underlying41 rfl U1.out ?_
        | refine wpList_store_block rfl 41 (.tmp 6) (.tmp 38) rfl (w.heap.size + 1 + 1) C rfl rfl #[.slice none 0 0, .slice none 0 0, .bool false, .int .i64 0, .bool false] 41 V6.out U1.out U2.out U3.out ?_)
      exact bodyPost_ret (v := .tuple #[.agg C, .int .i64 d.actE]) (res_cell_tmp Try.results17 _ _ (w.heap.size + 1 + 1) 41 _ (0, 0) _ _ rfl rfl M6.out Try.underlying41 rfl U1.out) rfl
        ⟨_, by rw [PE.out], ⟨A3, c3, A5, c5, lr2, by rw [HC2.out], RF.out, GG.out⟩, B6.out⟩
    · have hne : (d.actE == 0) = false := beq_eq_false_iff_ne.2 ha
      have PP' : Hid (d.put n s = d.act) := Lib.hid (PP.out.trans (if_neg ha))
      have Y6 := Lib.hid (setRow_at (rcells A3 c3 A4 c4 lr2 d.act) X6.out)
      have BY := Lib.hid (below_setRow BB.out (by omega : w.heap.size ≤ w.heap.size + 1 + 1) (rcells A3 c3 A4 c4 lr2 d.act))
      have RY : Hid (RV (w3.setRow (w.heap.size + 1 + 1) (rcells A3 c3 A4 c4 lr2 d.act)) A3 c3 A4 c4 lr2 d.act) := Lib.hid (RX.out.boxed X6.out (by decide) (by decide) (fun k hk hne => setRow_other _ _ _ _ hne))
      clear ha
      go_wp2_with (first
        | refine wpList_load_block rfl 41 (.tmp 3) rfl w.heap.size rfl (rcells A3 c3 A4 c4 lr2 d.act) 41 (0, 0) X3.out _ Try.underlying41 rfl W1.out ?_
        | refine wpList_store_block rfl 41 (.tmp 6) (.tmp 38) rfl (w.heap.size + 1 + 1) (rcells A3 c3 A4 c4 lr2 d.act) rfl rfl #[.slice none 0 0, .slice none 0 0, .bool false, .int .i64 0, .bool false] 41 X6.out W1.out W2.out W3.out ?_)
      exact bodyPost_ret (v := .tuple #[.agg (rcells A3 c3 A4 c4 lr2 d.act), .int .i64 d.actE]) (res_cell_tmp Try.results17 _ _ (w.heap.size + 1 + 1) 41 _ (0, 0) _ _ rfl rfl Y6.out Try.underlying41 rfl W1.out) rfl
        ⟨_, by rw [PE.out], ⟨A3, c3, A4, c4, lr2, by rw [PP'.out], by rw [PP'.out]; exact RY.out, fun k hk => by
          rcases G2.out k hk with h | h
          · exact .inl h
          · right; have := B1.out.size; omega⟩, BY.out⟩
  · have PE : Hid (d.putE i = 71) := Lib.hid (if_neg hd)
    have PP : Hid (d.put i s = d) := Lib.hid (if_neg hd)
    have hb : i < 0 ∨ (d.st.length : Int) ≤ i := by
      simp only [Dk.there, Bool.and_eq_true, decide_eq_true_eq] at hd
      omega
    obtain ⟨q, hq⟩ : ∃ q, decide (0 ≤ d.left) = q := ⟨_, rfl⟩
    have FIN : Hid (∀ w', Below w.heap.size w w' → RefE w (d.put i s) G (d.putE i) (.returned (.tuple #[.agg #[.slice A1 d.st.length c1, .slice A2 d.pd.length c2, .bool q, .int .i64 lr, .bool d.down], .int .i64 71])) w') := Lib.hid (fun w' hb =>
      ⟨_, by rw [PE.out], ⟨A1, c1, A2, c2, lr, by rw [PP.out, rcells, hq], by rw [PP.out]; exact H1.out.below hb, fun k hk => .inl (H2.out k hk)⟩, hb⟩)
    unfold rcells
    rw [hq]
    clear hq hd
    by_cases hi : i < 0
    · clear hb
      go_enter Try.func17, Try.ntmps17
      go_wp2_with fail
      exact bodyPost_ret (v := .tuple #[.agg #[.slice A1 d.st.length c1, .slice A2 d.pd.length c2, .bool q, .int .i64 lr, .bool d.down], .int .i64 71]) (by simp [results, Try.results17, go_sem]) rfl (FIN.out _ (by repeat (first | exact Below.refl _ _ | refine Below.setCell ?_ (by simp) _ | refine Below.alloc ?_ (by simp; try omega) _)))
    · have hi2 : (d.st.length : Int) ≤ i := by omega
      clear hb
      go_enter Try.func17, Try.ntmps17
      go_wp2_with fail
      exact bodyPost_ret (v := .tuple #[.agg #[.slice A1 d.st.length c1, .slice A2 d.pd.length c2, .bool q, .int .i64 lr, .bool d.down], .int .i64 71]) (by simp [results, Try.results17, go_sem]) rfl (FIN.out _ (by repeat (first | exact Below.refl _ _ | refine Below.setCell ?_ (by simp) _ | refine Below.alloc ?_ (by simp; try omega) _)))
end Go.Proofs.Ytndcgofjhlndgaa.Disk
