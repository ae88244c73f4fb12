/- Contracts of floodgateref07's Break and Read. Conditions: none beyond each lemma's own hypotheses. -/
import Derived.Test.YtndcgofjhlndgaaFgDiskRef
set_option linter.unusedVariables false
set_option linter.unusedSimpArgs false
namespace Go.Proofs.Ytndcgofjhlndgaa.Disk
open Go.RowKit Go.Proofs.Ytndcgofjhlndgaa.Fg

theorem refbrk_any {w : World} {v : Value} {d : Dk} {G : Nat → Prop} (h : IsRef w v d G) (n : Int) (hn : -9223372036854775808 ≤ n ∧ n ≤ 9223372036854775807) :
    Calls Try.prog 19 #[v, .int .i64 n] w (RefD w (d.brk n) G) := by
  obtain ⟨A1, c1, A2, c2, lr, rfl, h1, h2⟩ := h
  have HF : Hid (∀ w', Below w.heap.size w w' → RefD w (d.brk n) G (.returned (.agg #[.slice A1 d.st.length c1, .slice A2 d.pd.length c2, .bool (decide (0 ≤ n)), .int .i64 n, .bool d.down])) w') := Lib.hid (fun w' hb => by
    have h3 := h1.below hb
    have e : decide (0 ≤ (d.brk n).left) = decide (0 ≤ n) := by
      show decide (0 ≤ (if n < -1 then -1 else n : Int)) = _
      split
      · rw [Bool.eq_iff_iff]; simp; omega
      · rfl
    refine ⟨_, rfl, ⟨A1, c1, A2, c2, n, by rw [rcells, e]; rfl, ⟨Dk.brk_ok h3.ok hn.2, h3.few, h3.st, h3.pd, fun h0 => ?_, hn⟩, fun k hk => .inl (h2 k hk)⟩, hb⟩
    have h0' : 0 ≤ (if n < -1 then -1 else n : Int) := h0
    show n = (if n < -1 then -1 else n : Int)
    split at h0' <;> omega)
  clear h1 h2 hn
  unfold rcells
  generalize decide (0 ≤ d.left) = q at *
  go_enter Try.func19, Try.ntmps19
  go_wp2_with fail
  exact bodyPost_ret (v := .agg #[.slice A1 d.st.length c1, .slice A2 d.pd.length c2, .bool (decide (0 ≤ n)), .int .i64 n, .bool d.down]) (by simp [results, Try.results19, go_sem]) rfl (HF.out _ (by repeat (first | exact Below.refl _ _ | refine Below.setCell ?_ (by simp) _ | refine Below.alloc ?_ (by simp) _)))

theorem last_none {i : Int} {d : Dk} {j : Nat} {x : Nat × List Int} (hx : d.pd[j]? = some x) (out : List Int) (hne : ¬ (x.1 : Int) = i) : Dk.last i out (d.pd.take (j + 1)) = Dk.last i out (d.pd.take j) := by
  have ht : d.pd.take (j + 1) = d.pd.take j ++ [x] := by rw [List.take_add_one, hx]; rfl
  rw [ht, Dk.last_snoc, if_neg hne]
theorem last_some {i : Int} {d : Dk} {j : Nat} {x : Nat × List Int} (hx : d.pd[j]? = some x) (out : List Int) (he : (x.1 : Int) = i) : Dk.last i out (d.pd.take (j + 1)) = x.2 := by
  have ht : d.pd.take (j + 1) = d.pd.take j ++ [x] := by rw [List.take_add_one, hx]; rfl
  rw [ht, Dk.last_snoc, if_pos he]
theorem RV.rows {w : World} {A1 A2 : Option Addr} {c1 c2 : Nat} {lr : Int} {d : Dk} (h : RV w A1 c1 A2 c2 lr d) : RowsAt w A1 64 (sv d.st) ∧ RowsAt w A2 65 (d.pd.map wrow) :=
  ⟨RowsAt.of_own h.st (sv_len h.ok.sec) (by decide), RowsAt.of_own h.pd (pv_len fun x hx => (h.ok.at_ x hx).2) (by decide)⟩

set_option maxRecDepth 100000 in
set_option maxHeartbeats 1000000 in
theorem refread_any {w : World} {v : Value} {d : Dk} {G : Nat → Prop} (h : IsRef w v d G) (i : Int) :
    Calls Try.prog 21 #[v, .int .i64 i] w (SecE w (d.read i) (d.sErr i)) := by
  obtain ⟨A1, c1, A2, c2, lr, rfl, h1, -⟩ := h
  have HR := Lib.hid h1.rows
  have hfew := h1.few
  have HOK := Lib.hid h1.ok
  have B0 : Hid (Below w.heap.size w ((w.alloc (.cells (rcells A1 c1 A2 c2 lr d) 41)).alloc (.cells (bv noSec).toArray 25))) := Lib.hid (((Below.refl _ _).alloc (Nat.le_refl _) _).alloc (by simp) _)
  have K0 : Hid (((w.alloc (.cells (rcells A1 c1 A2 c2 lr d) 41)).alloc (.cells (bv noSec).toArray 25)).heap[w.heap.size]? = some (.cells (rcells A1 c1 A2 c2 lr d) 41)) := Lib.hid ((heap_alloc_old _ _ (by simp)).trans (heap_alloc_at w _))
  have K1 : Hid (((w.alloc (.cells (rcells A1 c1 A2 c2 lr d) 41)).alloc (.cells (bv noSec).toArray 25)).heap[w.heap.size + 1]? = some (.cells (bv noSec).toArray 25)) := Lib.hid (by
    have := heap_alloc_at (w.alloc (.cells (rcells A1 c1 A2 c2 lr d) 41)) (.cells (bv noSec).toArray 25)
    simpa using this)
  have fin : ∀ (s : List Int) (w2 : World), Below w.heap.size w w2 → w2.heap[w.heap.size + 1]? = some (.cells (bv noSec).toArray 25) → Below w.heap.size w (w2.setRow (w.heap.size + 1) (bv s).toArray) ∧ (w2.setRow (w.heap.size + 1) (bv s).toArray).heap[w.heap.size + 1]? = some (.cells (bv s).toArray 25) :=
    fun s w2 hb hk => ⟨below_setRow hb (by omega) _, setRow_at _ hk⟩
  have FIN := Lib.hid fin
  clear h1 fin
  by_cases hd : d.there i = true
  · have hb : 0 ≤ i ∧ i < (d.st.length : Int) := by simpa [Dk.there] using hd
    obtain ⟨hb0, hb1⟩ := hb
    obtain ⟨n, rfl⟩ := Int.eq_ofNat_of_zero_le hb0
    have hn : n < d.st.length := by omega
    have HE : Hid (d.sErr n = 0) := Lib.hid (if_pos hd)
    have HRD : Hid (d.read n = Dk.last n (d.stable n) d.pd) := Lib.hid (by rw [Dk.read, Dk.stable, if_pos hd, if_pos hd])
    obtain ⟨ps, rfl, hps, hrs⟩ := HR.out.1 n (bv (d.stable n)) (by rw [Dk.stable, if_pos hd]; simp [sv, hn])
    have HPS := Lib.hid hrs
    clear hd hrs
    go_enter Try.func21, Try.ntmps21
    go_upto_region 1 with (refine wpList_alloc_as rfl 25 rfl (bv noSec).toArray secZero ?_)
    generalize (w.alloc (.cells (rcells (some ⟨ps, 0, none⟩) c1 A2 c2 lr d) 41)).alloc (.cells (bv noSec).toArray 25) = w2 at *
    have c0 : w2.cell? ⟨w.heap.size, 0, none⟩ = some (.slice (some ⟨ps, 0, none⟩) d.st.length c1) := cell_of_block K0.out 0
    have c1' : w2.cell? ⟨w.heap.size, 1, none⟩ = some (.slice A2 d.pd.length c2) := cell_of_block K0.out 1
    have hR : Hid (Fg.RowsAt w2 A2 65 (d.pd.map wrow)) := Lib.hid (HR.out.2.below B0.out)
    have hP : Hid (w2.rangeAt ps (n * 64) (bv (d.stable n))) := Lib.hid (fun j v hv => (B0.out.cell (p := ⟨ps, n * 64 + j, none⟩) hps).trans (HPS.out j v hv))
    go_wp2_with fail
    go_loopg [6] d.pd.length (fun k v wr => ∃ x : Int, x + 1 = k ∧ k ≤ d.pd.length ∧ v = .int .i64 x ∧ Hid (Dk.last n (d.stable n) d.pd = Dk.last n (d.stable n) (d.pd.take k)) ∧ wr = w2)
    case atStart => exact ⟨_, by omega, Nat.le_refl _, rfl, Lib.hid (by rw [List.take_length]), rfl⟩
    case round =>
      obtain ⟨x, hx, hk, rfl, HL, rfl⟩ := hrel
      by_cases h0 : gk = 0
      · subst h0
        obtain rfl : x = -1 := by omega
        have HRD2 : Hid (d.read n = d.stable n) := Lib.hid (by rw [HRD.out, HL.out]; rfl)
        have Z1 : Hid ((Try.prog.info? 25).map (·.size) = some (bv (d.stable n)).length) := Lib.hid (by rw [secSize, bv_length, Dk.stable_64 HOK.out])
        have Z2 := Lib.hid (sec_toArray (Dk.stable_64 HOK.out n))
        have Z3 : Hid ((bv noSec).toArray.size = (bv (d.stable n)).toArray.size) := Lib.hid (by simp [bv, Dk.stable_64 HOK.out, noSec])
        have Z4 := Lib.hid (sec_one (d.stable n))
        obtain ⟨B3, K3⟩ := FIN.out (d.stable n) _ B0.out K1.out
        have HB3 := Lib.hid B3
        have HK3 := Lib.hid K3
        clear B3 K3
        go_wp2_with (first
          | refine wpList_load_mid rfl 25 (.tmp 42) rfl ps (n * 64) rfl (bv (d.stable n)) _ hP.out secUnder rfl Z1.out ?_
          | refine wpList_store_block rfl 25 (.tmp 4) (.tmp 43) rfl (w.heap.size + 1) (bv (d.stable n)).toArray rfl rfl (bv noSec).toArray 25 K1.out Z2.out Z3.out Z4.out ?_)
        exact bodyPost_ret (v := .tuple #[.agg (bv (d.stable n)).toArray, .int .i64 0]) (res_cell_tmp Try.results21 _ _ (w.heap.size + 1) 25 _ (0, 0) _ _ rfl rfl HK3.out secUnder rfl Z2.out) rfl ⟨by rw [HRD2.out, HE.out], HB3.out⟩
      · obtain ⟨q, rfl⟩ : ∃ q, gk = q + 1 := ⟨gk - 1, by omega⟩
        obtain rfl : x = (q : Int) := by omega
        obtain ⟨y, hy⟩ : ∃ y, d.pd[q]? = some y := ⟨_, List.getElem?_eq_getElem (by omega)⟩
        obtain ⟨p, rfl, hp1, hp2⟩ := hR.out q (wrow y) (by rw [List.getElem?_map, hy]; rfl)
        have q0 : wr.cell? ⟨p, q * 65, none⟩ = some (.int .i64 y.1) := hp2 0 _ rfl
        have Q1 : Hid (wr.rangeAt p (q * 65 + 1) (bv y.2)) := Lib.hid (fun i v hv => by have := hp2 (i + 1) v hv; rw [show q * 65 + 1 + i = q * 65 + (i + 1) by omega]; exact this)
        have hql : q < d.pd.length := by omega
        have HY := Lib.hid hy
        clear hp2 hy
        by_cases he : (y.1 : Int) = n
        · have heb : ((y.1 : Int) == (n : Int)) = true := beq_iff_eq.2 he
          have hy64 : y.2.length = 64 := (HOK.out.at_ y (List.mem_of_getElem? HY.out)).2
          have HRD2 : Hid (d.read n = y.2) := Lib.hid (by rw [HRD.out, HL.out, last_some HY.out _ he])
          have Z1 : Hid ((Try.prog.info? 25).map (·.size) = some (bv y.2).length) := Lib.hid (by rw [secSize, bv_length, hy64])
          have Z2 := Lib.hid (sec_toArray hy64)
          have Z3 : Hid ((bv noSec).toArray.size = (bv y.2).toArray.size) := Lib.hid (by simp [bv, hy64, noSec])
          have Z4 := Lib.hid (sec_one y.2)
          obtain ⟨B3, K3⟩ := FIN.out y.2 _ B0.out K1.out
          have HB3 := Lib.hid B3
          have HK3 := Lib.hid K3
          clear B3 K3 he hy64
          go_wp2_with (first
            | refine wpList_load_mid rfl 25 (.tmp 37) rfl p (q * 65 + 1) rfl (bv y.2) _ Q1.out secUnder rfl Z1.out ?_
            | refine wpList_store_block rfl 25 (.tmp 4) (.tmp 38) rfl (w.heap.size + 1) (bv y.2).toArray rfl rfl (bv noSec).toArray 25 K1.out Z2.out Z3.out Z4.out ?_)
          exact bodyPost_ret (v := .tuple #[.agg (bv y.2).toArray, .int .i64 0]) (res_cell_tmp Try.results21 _ _ (w.heap.size + 1) 25 _ (0, 0) _ _ rfl rfl HK3.out secUnder rfl Z2.out) rfl ⟨by rw [HRD2.out, HE.out], HB3.out⟩
        · have heb : ((y.1 : Int) == (n : Int)) = false := beq_eq_false_iff_ne.2 he
          have HL2 : Hid (Dk.last n (d.stable n) d.pd = Dk.last n (d.stable n) (d.pd.take q)) := Lib.hid (HL.out.trans (last_none HY.out _ he))
          clear he
          go_wp2_with fail
          go_roundg q
          case measure => omega
          case rel => exact ⟨(q : Int) - 1, by omega, by omega, rfl, HL2, rfl⟩
  · have HE : Hid (d.sErr i = 71) := Lib.hid (if_neg hd)
    have HRD : Hid (d.read i = noSec) := Lib.hid (if_neg hd)
    have Z2 := Lib.hid (sec_toArray Dk.noSec_len)
    have Z4 := Lib.hid (sec_one noSec)
    obtain ⟨B3, K3⟩ := FIN.out noSec _ B0.out K1.out
    have HB3 := Lib.hid B3
    have HK3 := Lib.hid K3
    have hb : i < 0 ∨ (d.st.length : Int) ≤ i := by
      simp only [Dk.there, Bool.and_eq_true, decide_eq_true_eq] at hd
      omega
    clear hd B3 K3
    by_cases hi : i < 0
    · go_enter Try.func21, Try.ntmps21
      go_upto_region 1 with (refine wpList_alloc_as rfl 25 rfl (bv noSec).toArray secZero ?_)
      generalize (w.alloc (.cells (rcells A1 c1 A2 c2 lr d) 41)).alloc (.cells (bv noSec).toArray 25) = w2 at *
      have c0 : w2.cell? ⟨w.heap.size, 0, none⟩ = some (.slice A1 d.st.length c1) := cell_of_block K0.out 0
      go_wp2_with (first
        | refine wpList_build_as rfl 25 #[] rfl (bv noSec).toArray secBuilt0 ?_
        | refine wpList_store_block rfl 25 (.tmp 4) (.tmp 16) rfl (w.heap.size + 1) (bv noSec).toArray rfl rfl (bv noSec).toArray 25 K1.out Z2.out rfl Z4.out ?_)
      exact bodyPost_ret (v := .tuple #[.agg (bv noSec).toArray, .int .i64 71]) (res_cell_tmp Try.results21 _ _ (w.heap.size + 1) 25 _ (0, 0) _ _ rfl rfl HK3.out secUnder rfl Z2.out) rfl ⟨by rw [HRD.out, HE.out], HB3.out⟩
    · have hi2 : (d.st.length : Int) ≤ i := by omega
      go_enter Try.func21, Try.ntmps21
      go_upto_region 1 with (refine wpList_alloc_as rfl 25 rfl (bv noSec).toArray secZero ?_)
      generalize (w.alloc (.cells (rcells A1 c1 A2 c2 lr d) 41)).alloc (.cells (bv noSec).toArray 25) = w2 at *
      have c0 : w2.cell? ⟨w.heap.size, 0, none⟩ = some (.slice A1 d.st.length c1) := cell_of_block K0.out 0
      go_wp2_with (first
        | refine wpList_build_as rfl 25 #[] rfl (bv noSec).toArray secBuilt0 ?_
        | refine wpList_store_block rfl 25 (.tmp 4) (.tmp 16) rfl (w.heap.size + 1) (bv noSec).toArray rfl rfl (bv noSec).toArray 25 K1.out Z2.out rfl Z4.out ?_)
      exact bodyPost_ret (v := .tuple #[.agg (bv noSec).toArray, .int .i64 71]) (res_cell_tmp Try.results21 _ _ (w.heap.size + 1) 25 _ (0, 0) _ _ rfl rfl HK3.out secUnder rfl Z2.out) rfl ⟨by rw [HRD.out, HE.out], HB3.out⟩
end Go.Proofs.Ytndcgofjhlndgaa.Disk
