/- Contracts of disk's Stable and Read. Conditions: none beyond each lemma's own hypotheses. -/
import Derived.Test.YtogkibikghbghaaFgDiskMem
set_option linter.unusedVariables false
set_option linter.unusedSimpArgs false
namespace Go.Proofs.Ytogkibikghbghaa.Disk
open Go.RowKit Go.Proofs.Ytogkibikghbghaa.Fg

def SecE (w : World) (s : List Int) (r : Int) (e : Ending) (w' : World) : Prop := e = .returned (.tuple #[.agg (bv s).toArray, .int .i64 r]) ∧ Below w.heap.size w w'

set_option maxRecDepth 100000 in
theorem stable_any {w : World} {g : Nat} {d : Dk} {F : Nat → Prop} (h : IsDisk w g d F) (i : Int) :
    Calls Try.prog 33 #[.pointer (some ⟨g, 0, none⟩), .int .i64 i] w (SecE w (d.stable i) (d.sErr i)) := by
  have HD := Lib.hid h
  have TH := Lib.hid (fun w' hb => there_any (h.below hb) i : ∀ w', Below w.heap.size w w' → _)
  obtain ⟨⟨sb, vp, h1, -⟩, -, h5⟩ := h
  have hlt := block_lt h1.head
  have c2 : w.cell? ⟨g, 0, none⟩ = some (.slice (some ⟨sb, 0, none⟩) d.st.length d.st.length) := cell_of_block h1.head 0
  have hlt2 : sb < w.heap.size := block_lt h1.stab
  have HS := Lib.hid h1.stab
  have hfew := h1.few.1
  have HSE := Lib.hid h1.ok.sec
  have BL : Hid (Below w.heap.size w (w.alloc (.cells (bv noSec).toArray 77))) := Lib.hid ((Below.refl _ _).alloc (Nat.le_refl _) _)
  have BK := Lib.hid (heap_alloc_at w (.cells (bv noSec).toArray 77))
  clear h1 h5
  by_cases hd : d.there i = true
  · have hb : 0 ≤ i ∧ i < (d.st.length : Int) := by simpa [Dk.there] using hd
    obtain ⟨hb0, hb1⟩ := hb
    obtain ⟨n, rfl⟩ := Int.eq_ofNat_of_zero_le hb0
    have hn : n < d.st.length := by omega
    have HR : Hid (d.stable n = d.st[n] ∧ d.sErr n = 0) := Lib.hid ⟨by rw [Dk.stable, if_pos hd]; simp [hn], if_pos hd⟩
    have HB0 : Hid (w.rangeAt sb (n * 64) (bv d.st[n])) := Lib.hid (HS.out.range (sv_len HSE.out) n (by simp [sv, hn]))
    have HL : Hid (d.st[n].length = 64) := Lib.hid (HSE.out _ (List.getElem_mem hn))
    generalize d.st[n] = s at *
    have HB1 : Hid ((w.alloc (.cells (bv noSec).toArray 77)).rangeAt sb (n * 64) (bv s)) := Lib.hid (fun j v hv => ((BL.out.cell (p := ⟨sb, n * 64 + j, none⟩) hlt2).trans (HB0.out j v hv)))
    have HZ : Hid ((Try.prog.info? 77).map (·.size) = some (bv s).length) := Lib.hid (by rw [secSize, bv_length, HL.out])
    have HZ2 := Lib.hid (sec_toArray HL.out)
    have HQ : Hid ((bv noSec).toArray.size = (bv s).toArray.size) := Lib.hid (by simp [bv, HL.out, noSec])
    have HO := Lib.hid (sec_one s)
    have BK2 := Lib.hid (setRow_at (bv s).toArray BK.out)
    have BL2 := Lib.hid (below_setRow BL.out (Nat.le_refl _) (bv s).toArray)
    go_enter Try.func33, Try.ntmps33
    go_wp2_with (refine wpList_alloc_as rfl 77 rfl (bv noSec).toArray secZero ?_)
    refine (TH.out _ BL.out).mono ?_
    rintro e w' ⟨rfl, rfl⟩
    generalize w.alloc (.cells (bv noSec).toArray 77) = w1 at *
    have c3 : w1.cell? ⟨g, 0, none⟩ = some (.slice (some ⟨sb, 0, none⟩) d.st.length d.st.length) := (BL.out.cell (p := ⟨g, 0, none⟩) hlt).trans c2
    go_wp2_with (first
      | refine wpList_load_mid rfl 77 (.tmp 16) rfl sb (n * 64) rfl (bv s) _ HB1.out secUnder rfl HZ.out ?_
      | refine wpList_store_block rfl 77 (.tmp 4) (.tmp 17) rfl w.heap.size (bv s).toArray rfl rfl (bv noSec).toArray 77 BK.out HZ2.out HQ.out HO.out ?_)
    exact bodyPost_ret (v := .tuple #[.agg (bv s).toArray, .int .i64 0]) (res_cell_tmp Try.results33 _ _ w.heap.size 77 _ (0, 0) _ _ rfl rfl BK2.out secUnder rfl HZ2.out) rfl ⟨by rw [HR.out.1, HR.out.2], BL2.out⟩
  · have HR : Hid (d.stable i = noSec ∧ d.sErr i = 71) := Lib.hid ⟨if_neg hd, if_neg hd⟩
    have hd' : d.there i = false := by simpa using hd
    have BK2 := Lib.hid (setRow_at (bv noSec).toArray BK.out)
    have BL2 := Lib.hid (below_setRow BL.out (Nat.le_refl _) (bv noSec).toArray)
    have HZ2 := Lib.hid (sec_toArray Dk.noSec_len)
    have HO := Lib.hid (sec_one noSec)
    clear hd
    go_enter Try.func33, Try.ntmps33
    go_wp2_with (refine wpList_alloc_as rfl 77 rfl (bv noSec).toArray secZero ?_)
    refine (TH.out _ BL.out).mono ?_
    rintro e w' ⟨rfl, rfl⟩
    generalize w.alloc (.cells (bv noSec).toArray 77) = w1 at *
    go_wp2_with (first
      | refine wpList_build_as rfl 77 #[] rfl (bv noSec).toArray secBuilt0 ?_
      | refine wpList_store_block rfl 77 (.tmp 4) (.tmp 10) rfl w.heap.size (bv noSec).toArray rfl rfl (bv noSec).toArray 77 BK.out HZ2.out rfl HO.out ?_)
    exact bodyPost_ret (v := .tuple #[.agg (bv noSec).toArray, .int .i64 71]) (res_cell_tmp Try.results33 _ _ w.heap.size 77 _ (0, 0) _ _ rfl rfl BK2.out secUnder rfl HZ2.out) rfl ⟨by rw [HR.out.1, HR.out.2], BL2.out⟩

theorem wrZero : (Try.prog.info? 114).map (·.zero) = some (some (.agg (.int .i64 0 :: bv noSec).toArray)) := by kernel_rfl
theorem wrSize : (Try.prog.info? 114).map (·.size) = some 65 := by kernel_rfl
def wrow (x : Nat × List Int) : List Value := .int .i64 x.1 :: bv x.2
theorem wrow_len {x : Nat × List Int} (h : x.2.length = 64) : (wrow x).length = 65 := by simp [wrow, bv, h]
theorem wrow_one (x : Nat × List Int) : (wrow x).toArray.all (·.oneCell') = true := all_oneCell_toArray (fun v hv => by
  rcases List.mem_cons.1 hv with rfl | hv
  · rfl
  · exact bv_one _ v hv)
theorem IsDisk.pend {w : World} {g : Nat} {d : Dk} {F : Nat → Prop} (h : IsDisk w g d F) : ∃ A c, w.cell? ⟨g, 1, none⟩ = some (.slice A d.pd.length c) ∧ RowsAt w A 65 (d.pd.map wrow) := by
  obtain ⟨⟨sb, vp, h1, -⟩, -⟩ := h
  have c1 := cell_of_block h1.head 1
  have hp := h1.pend
  obtain ⟨A, c, rfl, -⟩ := own_form hp
  exact ⟨A, c, c1, RowsAt.of_own hp (pv_len fun x hx => (h1.ok.at_ x hx).2) (by decide)⟩
/-- How far Read has come. -/
def outAt (d : Dk) (i : Int) (j : Nat) : List Int := if d.there i then Dk.last i (d.stable i) (d.pd.take j) else noSec
theorem outAt_start (d : Dk) (i : Int) : outAt d i 0 = d.stable i := by
  unfold outAt
  split
  · rfl
  · rename_i h; exact (if_neg h).symm
theorem outAt_end (d : Dk) (i : Int) : outAt d i d.pd.length = d.read i := by
  unfold outAt Dk.read
  split
  · rename_i h
    rw [List.take_length, Dk.stable, if_pos h]
  · rfl
theorem outAt_step {d : Dk} {i : Int} {j : Nat} {x : Nat × List Int} (hx : d.pd[j]? = some x) : outAt d i (j + 1) = if d.there i = true ∧ (x.1 : Int) = i then x.2 else outAt d i j := by
  unfold outAt
  have hj := (List.getElem?_eq_some_iff.1 hx).1
  have ht : d.pd.take (j + 1) = d.pd.take j ++ [x] := by
    rw [List.take_add_one, hx]; rfl
  by_cases h : d.there i = true
  · rw [if_pos h, if_pos h, ht, Dk.last_snoc]
    by_cases h2 : (x.1 : Int) = i
    · rw [if_pos h2, if_pos ⟨h, h2⟩]
    · rw [if_neg h2, if_neg (fun h3 => h2 h3.2)]
  · rw [if_neg h, if_neg h, if_neg (fun h3 => h h3.1)]
theorem outAt_64 {d : Dk} (h : d.ok) (i : Int) (j : Nat) : (outAt d i j).length = 64 := by
  unfold outAt
  split
  · exact Dk.last_64 i _ _ (Dk.stable_64 h i) (fun x hx => (h.at_ x (List.mem_of_mem_take hx)).2)
  · exact Dk.noSec_len
theorem wr_load (x : Nat × List Int) (h : x.2.length = 64) : (Try.prog.info? 114).map (·.size) = some (wrow x).length := by rw [wrSize, wrow_len h]
theorem wr_size (x : Nat × List Int) (h : x.2.length = 64) : (Try.prog.info? 114).map (·.size) = some (wrow x).toArray.size := by rw [wrSize]; simp [wrow_len h]

def ReadNow (ob : Nat) (w : World) (d : Dk) (i : Int) (j : Nat) (w' : World) : Prop := Below w.heap.size w w' ∧ w'.heap[ob]? = some (.cells (bv (outAt d i j)).toArray 77) ∧ w'.heap[w.heap.size]? = some (.cells (bv noSec).toArray 77) ∧ w.heap.size < ob
set_option maxRecDepth 100000 in
set_option maxHeartbeats 1000000 in
theorem read_any {w : World} {g : Nat} {d : Dk} {F : Nat → Prop} (h : IsDisk w g d F) (i : Int) :
    Calls Try.prog 69 #[.pointer (some ⟨g, 0, none⟩), .int .i64 i] w (SecE w (d.read i) (d.sErr i)) := by
  obtain ⟨A, c, hp1, hp2⟩ := h.pend
  have HR := Lib.hid hp2
  have hglt := h.lt g h.self
  have ST := Lib.hid (fun w' hb => stable_any (h.below hb) i : ∀ w', Below w.heap.size w w' → _)
  have HOK := Lib.hid h.ok
  have hfew := h.few.2
  have BL : Hid (Below w.heap.size w (w.alloc (.cells (bv noSec).toArray 77))) := Lib.hid ((Below.refl _ _).alloc (Nat.le_refl _) _)
  have BK := Lib.hid (heap_alloc_at w (.cells (bv noSec).toArray 77))
  clear h hp2
  go_enter Try.func69, Try.ntmps69
  go_wp2_with (refine wpList_alloc_as rfl 77 rfl (bv noSec).toArray secZero ?_)
  refine (ST.out _ BL.out).mono ?_
  rintro e w2 ⟨rfl, hb2⟩
  generalize w.alloc (.cells (bv noSec).toArray 77) = w1 at *
  have B2 : Hid (Below w.heap.size w w2) := Lib.hid (BL.out.trans (hb2.mono BL.out.size))
  have BK2 : Hid (w2.heap[w.heap.size]? = some (.cells (bv noSec).toArray 77)) := Lib.hid ((hb2.block _ (block_lt BK.out)).trans BK.out)
  have B3 : Hid (Below w.heap.size w ((w2.alloc (.cells (bv noSec).toArray 77)).setRow w2.heap.size (bv (d.stable i)).toArray)) := Lib.hid (below_setRow (B2.out.alloc B2.out.size _) B2.out.size _)
  have K3 := Lib.hid (heap_alloc_at w2 (.cells (bv noSec).toArray 77))
  have K4 := Lib.hid (setRow_at (bv (d.stable i)).toArray K3.out)
  have K5 : Hid (((w2.alloc (.cells (bv noSec).toArray 77)).setRow w2.heap.size (bv (d.stable i)).toArray).heap[w.heap.size]? = some (.cells (bv noSec).toArray 77)) :=
    Lib.hid ((setRow_other _ _ _ _ (Nat.ne_of_lt (block_lt BK2.out))).trans ((heap_alloc_old _ _ (block_lt BK2.out)).trans BK2.out))
  have hob := B2.out.size
  have HLT := Lib.hid (block_lt BK2.out)
  have Z1 := Lib.hid (sec_toArray (Dk.stable_64 HOK.out i))
  have Z2 : Hid ((bv noSec).toArray.size = (bv (d.stable i)).toArray.size) := Lib.hid (by simp [bv, Dk.stable_64 HOK.out i, noSec])
  have Z3 := Lib.hid (sec_one (d.stable i))
  have OS := Lib.hid (outAt_start d i)
  clear hb2
  go_upto_region 2 with (first
    | refine wpList_alloc_as rfl 77 rfl (bv noSec).toArray secZero ?_
    | refine wpList_store_block rfl 77 (.tmp 6) (.tmp 14) rfl w2.heap.size (bv (d.stable i)).toArray rfl rfl (bv noSec).toArray 77 K3.out Z1.out Z2.out Z3.out ?_)
  generalize (w2.alloc (.cells (bv noSec).toArray 77)).setRow w2.heap.size (bv (d.stable i)).toArray = w3 at *
  have c3 : w3.cell? ⟨g, 1, none⟩ = some (.slice A d.pd.length c) := (B3.out.cell (p := ⟨g, 1, none⟩) hglt).trans hp1
  have Z8 := Lib.hid (fun j => sec_toArray (outAt_64 HOK.out i j))
  have Z9 := Lib.hid (outAt_end d i)
  go_wp2_with fail
  go_loopg [21] d.pd.length (fun k n wr => ∃ j : Nat, j + k = d.pd.length ∧ n = .int .i64 j ∧ ReadNow w2.heap.size w d i j wr)
  case atStart => exact ⟨0, Nat.zero_add _, rfl, B3.out, by rw [OS.out]; exact K4.out, K5.out, HLT.out⟩
  case round =>
    obtain ⟨j, hj, rfl, hnow⟩ := hrel
    obtain ⟨hb, k1, k2, k3⟩ := hnow
    have HB := Lib.hid hb
    have K1 := Lib.hid k1
    have K2 := Lib.hid k2
    have K3' := Lib.hid k3
    clear hb k1 k2 k3
    by_cases hlt : j < d.pd.length
    · obtain ⟨x, hx⟩ : ∃ x, d.pd[j]? = some x := ⟨_, List.getElem?_eq_getElem hlt⟩
      obtain ⟨p, rfl, hp1, hp2⟩ := HR.out j (wrow x) (by rw [List.getElem?_map, hx]; rfl)
      have hx64 : x.2.length = 64 := (HOK.out.at_ x (List.mem_of_getElem? hx)).2
      have HX := Lib.hid hx
      have R0 := Lib.hid (heap_alloc_at wr (.cells (.int .i64 0 :: bv noSec).toArray 114))
      have R1 := Lib.hid (setRow_at (wrow x).toArray R0.out)
      have R2 : Hid (Below wr.heap.size wr ((wr.alloc (.cells (.int .i64 0 :: bv noSec).toArray 114)).setRow wr.heap.size (wrow x).toArray)) := Lib.hid (below_setRow ((Below.refl _ _).alloc (Nat.le_refl _) _) (Nat.le_refl _) _)
      have HPR : Hid (wr.rangeAt p (j * 65) (wrow x)) := Lib.hid (fun i v hv => (HB.out.cell (p := ⟨p, j * 65 + i, none⟩) hp1).trans (hp2 i v hv))
      have Y1 := Lib.hid (wr_load x hx64)
      have Y2 := Lib.hid (wr_size x hx64)
      have Y3 : Hid ((.int .i64 0 :: bv noSec).toArray.size = (wrow x).toArray.size) := Lib.hid (by simp [wrow, bv, hx64, noSec])
      have Y4 := Lib.hid (wrow_one x)
      have HO := Lib.hid (outAt_step (i := i) hx)
      clear hx hp2 hx64
      go_upto_region 5 with (first
        | refine wpList_load_mid rfl 114 (.tmp 23) rfl p (j * 65) rfl (wrow x) _ HPR.out Try.underlying114 rfl Y1.out ?_
        | refine wpList_alloc_as rfl 114 rfl (.int .i64 0 :: bv noSec).toArray wrZero ?_
        | refine wpList_store_block rfl 114 (.tmp 9) (.tmp 24) rfl wr.heap.size (wrow x).toArray rfl rfl (.int .i64 0 :: bv noSec).toArray 114 R0.out Y2.out Y3.out Y4.out ?_)
      generalize (wr.alloc (.cells (.int .i64 0 :: bv noSec).toArray 114)).setRow wr.heap.size (wrow x).toArray = w9 at *
      have q0 : w9.cell? ⟨wr.heap.size, 0, none⟩ = some (.int .i64 x.1) := cell_of_block R1.out 0
      have Q1 : Hid (w9.rangeAt wr.heap.size 1 (bv x.2)) := Lib.hid (fun i v hv => by rw [cell_of_block R1.out, List.getElem?_toArray, wrow, Nat.add_comm 1 i, List.getElem?_cons_succ]; exact hv)
      have K9 : Hid (w9.heap[w2.heap.size]? = some (.cells (bv (outAt d i j)).toArray 77)) := Lib.hid ((R2.out.block _ (block_lt K1.out)).trans K1.out)
      have N9 : Hid (Below w.heap.size w w9 ∧ w9.heap[w.heap.size]? = some (.cells (bv noSec).toArray 77)) := Lib.hid ⟨HB.out.trans (R2.out.mono HB.out.size), (R2.out.block _ (block_lt K2.out)).trans K2.out⟩
      have hne : w.heap.size ≠ w2.heap.size := Nat.ne_of_lt K3'.out
      have HNE := Lib.hid hne
      clear hne
      by_cases hth : d.there i = true
      · have he : (d.sErr i == 0) = true := by rw [Dk.sErr, if_pos hth]; rfl
        by_cases hxi : (x.1 : Int) = i
        · have hxb : ((x.1 : Int) == i) = true := beq_iff_eq.2 hxi
          have ON : Hid (outAt d i (j + 1) = x.2) := Lib.hid (HO.out.trans (if_pos ⟨hth, hxi⟩))
          have hx64 : x.2.length = 64 := (HOK.out.at_ x (List.mem_of_getElem? HX.out)).2
          have V1 : Hid ((Try.prog.info? 77).map (·.size) = some (bv x.2).length) := Lib.hid (by rw [secSize, bv_length, hx64])
          have V2 := Lib.hid (sec_toArray hx64)
          have V3 : Hid ((bv (outAt d i j)).toArray.size = (bv x.2).toArray.size) := Lib.hid (by simp [bv, hx64, outAt_64 HOK.out])
          have V4 := Lib.hid (sec_one x.2)
          clear hth hxi hx64
          go_wp2_with (first
            | refine wpList_load_mid rfl 77 (.tmp 33) rfl wr.heap.size 1 rfl (bv x.2) _ Q1.out secUnder rfl V1.out ?_
            | refine wpList_store_block rfl 77 (.tmp 6) (.tmp 34) rfl w2.heap.size (bv x.2).toArray rfl rfl (bv (outAt d i j)).toArray 77 K9.out V2.out V3.out V4.out ?_)
          go_roundg (gk - 1)
          case measure => omega
          case rel => exact ⟨j + 1, by omega, by go_num, below_setRow N9.out.1 (by have := HNE.out; have := K3'.out; omega) _, by rw [ON.out]; exact setRow_at _ K9.out, (setRow_other _ _ _ _ HNE.out).trans N9.out.2, K3'.out⟩
        · have hxb : ((x.1 : Int) == i) = false := beq_eq_false_iff_ne.2 hxi
          have ON : Hid (outAt d i (j + 1) = outAt d i j) := Lib.hid (HO.out.trans (if_neg (fun h => hxi h.2)))
          clear hth hxi
          go_wp2_with fail
          go_roundg (gk - 1)
          case measure => omega
          case rel => exact ⟨j + 1, by omega, by go_num, N9.out.1, by rw [ON.out]; exact K9.out, N9.out.2, K3'.out⟩
      · have he : (d.sErr i == 0) = false := by rw [Dk.sErr, if_neg hth]; rfl
        have ON : Hid (outAt d i (j + 1) = outAt d i j) := Lib.hid (HO.out.trans (if_neg (fun h => hth h.1)))
        clear hth
        go_wp2_with fail
        go_roundg (gk - 1)
        case measure => omega
        case rel => exact ⟨j + 1, by omega, by go_num, N9.out.1, by rw [ON.out]; exact K9.out, N9.out.2, K3'.out⟩
    · have e : j = d.pd.length := by omega
      subst e
      have V1 : Hid ((Try.prog.info? 77).map (·.size) = some (bv (outAt d i d.pd.length)).toArray.size) := Lib.hid (Z8.out _)
      have V3 : Hid ((bv noSec).toArray.size = (bv (outAt d i d.pd.length)).toArray.size) := Lib.hid (by simp [bv, noSec, outAt_64 HOK.out])
      have V4 := Lib.hid (sec_one (outAt d i d.pd.length))
      have K6 := Lib.hid (setRow_at (bv (outAt d i d.pd.length)).toArray K2.out)
      have B6 := Lib.hid (below_setRow HB.out (Nat.le_refl _) (bv (outAt d i d.pd.length)).toArray)
      go_wp2_with (first
        | refine wpList_load_block rfl 77 (.tmp 6) rfl w2.heap.size rfl (bv (outAt d i d.pd.length)).toArray 77 (0, 0) K1.out _ secUnder rfl V1.out ?_
        | refine wpList_store_block rfl 77 (.tmp 4) (.tmp 36) rfl w.heap.size (bv (outAt d i d.pd.length)).toArray rfl rfl (bv noSec).toArray 77 K2.out V1.out V3.out V4.out ?_)
      exact bodyPost_ret (v := .tuple #[.agg (bv (outAt d i d.pd.length)).toArray, .int .i64 (d.sErr i)]) (res_cell_tmp Try.results69 _ _ w.heap.size 77 _ (0, 0) _ _ rfl rfl K6.out secUnder rfl V1.out) rfl ⟨by rw [Z9.out], B6.out⟩
end Go.Proofs.Ytogkibikghbghaa.Disk
