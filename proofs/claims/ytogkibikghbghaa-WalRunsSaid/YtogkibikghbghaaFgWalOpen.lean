/- Contract of wal's open: the record that begins at a sector. Conditions: none beyond each lemma's own hypotheses. -/
import Derived.Test.YtogkibikghbghaaFgWalApp
set_option linter.unusedVariables false
set_option linter.unusedSimpArgs false
namespace Go.Proofs.Ytogkibikghbghaa.Wal
open Go.RowKit Go.Proofs.Ytogkibikghbghaa.Fg Go.Proofs.Ytogkibikghbghaa.Frame Go.Proofs.Ytogkibikghbghaa.Disk Go.Proofs.Ytogkibikghbghaa.Area

theorem wsecInfo : (Try.prog.info? 77).map (fun i => (i.zero, i.size)) = some (some (.agg (bv noSec).toArray), 64) := by kernel_rfl

/-- Bytes do not lie in a block that holds none. -/
theorem src_ne {w : World} {A : Option Addr} {n c : Nat} {l : List Int} (h : Fg.Src w A n c (bv l)) {b : Nat} {cs : Array Value} {t : TypeId} {fr : Nat × Nat} (hb : w.heap[b]? = some (.cells cs t fr))
    (hc : ∀ (i : Nat) (x : Int), cs[i]? ≠ some (.int .u8 x)) {ad : Addr} (had : A = some ad) (hne : bv l ≠ []) : ad.block ≠ b := by
  rintro rfl
  cases l with
  | nil => exact hne rfl
  | cons x xs =>
    have h1 := h.cells ad had 0 (.int .u8 x) rfl
    have e : ad.add 0 = ad := by simp [Addr.add]
    rw [e] at h1
    simp only [World.cell?, hb] at h1
    split at h1
    · cases h1
    · exact hc _ _ h1
/-- What an open leaves. -/
def LopenE (w : World) (l : Lg) (d : Dk) (seg at_ : Int) (e : Ending) (w' : World) : Prop :=
  ∃ A c, e = .returned (.tuple #[recv A c (l.openR d seg at_), .int .i64 (l.openN d seg at_)]) ∧ Fg.Src w' A (l.openR d seg at_).pay.length c (bv (l.openR d seg at_).pay) ∧ Below w.heap.size w w' ∧ ∀ ad, A = some ad → w.heap.size < ad.block
theorem LopenE.no {w w' : World} {l : Lg} {d : Dk} {seg at_ : Int} (h : ¬ l.opens d seg at_) (hb : Below w.heap.size w w') : LopenE w l d seg at_ (.returned (.tuple #[.agg #[.int .u64 0, .int .u32 0, .slice none 0 0], .int .i64 0])) w' := by
  refine ⟨none, 0, ?_, ?_, hb, fun _ h => by cases h⟩
  · rw [Lg.openR, Lg.openN, if_neg h, if_neg h]; rfl
  · rw [Lg.openR, if_neg h]
    exact ⟨fun _ => ⟨rfl, rfl⟩, Nat.le_refl _, by simp [maxLen], fun _ h => by cases h⟩
/-- How far the sectors are read. -/
def ReadRel (w1 : World) (rows : List (List Int)) (j : Nat) (v : Value) (w' : World) : Prop := w'.ownsRow w1.heap.size 77 64 v j (sv (rows.take j)).flatten ∧ Below w1.heap.size w1 w'

set_option maxRecDepth 100000 in
set_option maxHeartbeats 4000000 in
theorem lopen_any {w : World} {lb g : Nat} {l : Lg} {d : Dk} {F : Nat → Prop} (h : IsLog w lb g l d F) (seg at_ : Int) (hseg : okB d.st.length seg = true) (ha0 : 0 ≤ at_) (ha1 : at_ ≤ 16) :
    Calls Try.prog 57 #[.pointer (some ⟨lb, 0, none⟩), .int .i64 seg, .int .i64 at_] w (LopenE w l d seg at_) := by
  have H := Lib.hid h
  have SG := Lib.hid (fun w' => Area.seg_any (d.st.length : Int) seg w')
  have hsv : segV d.st.length seg = 32 + seg * 16 := if_pos hseg
  have hsr := okB_in hseg
  have hfew := h.disk.few.1
  obtain ⟨fst, hfst⟩ : ∃ x, segV d.st.length seg = x := ⟨_, rfl⟩
  have hfr : 0 ≤ fst ∧ fst ≤ 512 := by rw [← hfst, hsv]; omega
  obtain ⟨hfr0, hfr1⟩ := hfr
  have HF := Lib.hid hfst
  obtain ⟨m, hm⟩ : ∃ m, (16 - at_).toNat = m := ⟨_, rfl⟩
  have hma : at_ + m = 16 := by omega
  obtain ⟨rows, hrows⟩ : ∃ r, readSecs d seg at_ = r := ⟨_, rfl⟩
  have HR := Lib.hid hrows
  have HRL : Hid (rows.length = m) := Lib.hid (by rw [← hrows, readSecs_length, hm])
  have HRS : Hid (Secs rows) := Lib.hid (by rw [← hrows]; exact readSecs_ok h.disk.ok h.byt seg at_)
  have HRG : Hid (∀ j : Nat, j < m → rows[j]? = some (d.read (fst + (at_ + j)))) := Lib.hid (by
    intro j hj
    rw [← hrows, readSecs, hfst, List.getElem?_map, List.getElem?_range (by omega)]
    rfl)
  clear h hsv hsr hrows hm hseg
  go_enter Try.func57, Try.ntmps57
  have c0 : (w.alloc (.cells #[.int .u64 0, .int .u32 0, .slice none 0 0] 40)).cell? ⟨lb, 0, none⟩ = some (.pointer (some ⟨g, 0, none⟩)) := (World.cell?_of_block (heap_alloc_old _ _ (block_lt H.out.head))).trans (H.out.cell 0)
  have B0 : Hid (Below w.heap.size w (w.alloc (.cells #[.int .u64 0, .int .u32 0, .slice none 0 0] 40))) := Lib.hid ((Below.refl _ _).alloc (Nat.le_refl _) _)
  have RB := Lib.hid (heap_alloc_at w (.cells #[.int .u64 0, .int .u32 0, .slice none 0 0] 40))
  go_wp2_with fail
  generalize w.alloc (.cells #[.int .u64 0, .int .u32 0, .slice none 0 0] 40) = w0 at *
  have L0 := Lib.hid (H.out.below B0.out)
  refine (len_any L0.out.disk).mono ?_
  rintro e wq ⟨rfl, rfl⟩
  go_wp2_with fail
  refine (SG.out w0).mono ?_
  rintro e w1 ⟨rfl, hb1⟩
  rw [hfst]
  clear hfst
  have B1 : Hid (Below w.heap.size w w1) := Lib.hid (B0.out.trans (hb1.mono B0.out.size))
  have L1 := Lib.hid (H.out.below B1.out)
  have RB1 : Hid (w1.heap[w.heap.size]? = some (.cells #[.int .u64 0, .int .u32 0, .slice none 0 0] 40 (0, 0))) := Lib.hid ((hb1.block _ (block_lt RB.out)).trans RB.out)
  clear hb1 c0
  go_wp2_with fail
  go_loopg [10, 11] m (fun k v i wr => ∃ j : Nat, j + k = m ∧ i = .int .i64 (at_ + j) ∧ ReadRel w1 rows j v wr)
  case atStart => exact ⟨0, Nat.zero_add _, by go_num, World.ownsRow_nil _ _ _ _, Below.refl _ _⟩
  case round =>
    obtain ⟨j, hj, rfl, ho, hb⟩ := hrel
    obtain ⟨A1, c1, rfl, -⟩ := own_form ho
    have HO := Lib.hid ho
    have HB := Lib.hid hb
    have LR := Lib.hid (L1.out.below hb)
    clear ho hb
    by_cases hlt : j < m
    · have c0 := LR.out.cell 0
      simp only [lcells] at c0
      have HX := Lib.hid (HRG.out j hlt)
      have hjI : at_ + (j : Int) < 16 := by omega
      have W1 : IntKind.i64.wrap (fst + (at_ + j)) = fst + (at_ + j) := by rw [IntKind.wrap_i64]; omega
      have RDC := Lib.hid (read_any LR.out.disk (fst + (at_ + j)))
      obtain ⟨s, hs⟩ : ∃ s, d.read (fst + (at_ + j)) = s := ⟨_, rfl⟩
      have h64 : s.length = 64 := by rw [← hs]; exact Dk.read_64 L1.out.disk.ok _
      rw [hs] at RDC HX
      have HT : Hid ((sv (rows.take (j + 1))).flatten = (sv (rows.take j)).flatten ++ bv s) := Lib.hid (by rw [List.take_add_one, HX.out]; simp [sv])
      clear hs
      go_wp2_with fail
      refine RDC.out.mono ?_
      rintro e w5 ⟨rfl, hb5⟩
      have B5 : Hid (Below w1.heap.size w1 w5) := Lib.hid (HB.out.trans (hb5.mono HB.out.size))
      have O5 : Hid (w5.ownsRow w1.heap.size 77 64 (.slice A1 j c1) j (sv (rows.take j)).flatten) := Lib.hid (own_same HO.out fun k hk => hb5.block k (HO.out.lt k hk).2)
      have s5 := B5.out.size
      clear hb5
      have K2 := Lib.hid (heap_alloc_at w5 (.cells (bv noSec).toArray 77))
      have K3 := Lib.hid (setRow_at (bv s).toArray K2.out)
      have BW : Hid (Below w5.heap.size w5 ((w5.alloc (.cells (bv noSec).toArray 77)).setRow w5.heap.size (bv s).toArray)) := Lib.hid (below_setRow ((Below.refl _ _).alloc (Nat.le_refl _) _) (Nat.le_refl _) _)
      have Z1 := Lib.hid (sec_toArray h64)
      have Z2 : Hid ((bv noSec).toArray.size = (bv s).toArray.size) := Lib.hid (by simp [bv, h64, noSec])
      have Z3 := Lib.hid (sec_one s)
      have Z4 : Hid ((Try.prog.info? 77).map (·.size) = some (bv s).length) := Lib.hid (by rw [secSize, bv_length, h64])
      have Z5 : Hid ((Value.agg (bv s).toArray).cells.size = 64) := Lib.hid (by simp [Value.cells, bv, h64])
      have Z6 : Hid ((Value.agg (bv noSec).toArray).cells.size = 64) := Lib.hid (by simp [Value.cells, bv, noSec])
      have Z7 : Hid ((bv s).length = 1 * 64) := Lib.hid (by simp [bv, h64])
      clear h64
      go_upto_region 7 with (first
        | refine wpList_alloc_as rfl 77 rfl (bv noSec).toArray secZero ?_
        | refine wpList_store_block rfl 77 (.tmp 12) (.tmp 41) rfl w5.heap.size (bv s).toArray rfl rfl (bv noSec).toArray 77 K2.out Z1.out Z2.out Z3.out ?_)
      obtain ⟨w6, hw6⟩ : ∃ x, (w5.alloc (.cells (bv noSec).toArray 77)).setRow w5.heap.size (bv s).toArray = x := ⟨_, rfl⟩
      rw [hw6] at K3 BW ⊢
      clear hw6 K2
      have B6 : Hid (Below w1.heap.size w1 w6) := Lib.hid (B5.out.trans (BW.out.mono s5))
      have O6 : Hid (w6.ownsRow w1.heap.size 77 64 (.slice A1 j c1) j (sv (rows.take j)).flatten) := Lib.hid (own_same O5.out fun k hk => BW.out.block k (O5.out.lt k hk).2)
      have s6 := B6.out.size
      have R6 : Hid (w6.rangeAt w5.heap.size 0 (bv s)) := Lib.hid (fun q v hv => by rw [Nat.zero_add, cell_of_block K3.out, List.getElem?_toArray]; exact hv)
      have SS : Hid (Fg.Src (w6.alloc (.cells (bv s).toArray 77)) (some ⟨w6.heap.size, 0, none⟩) 1 1 (bv s)) := Lib.hid (src_rows w6 (bv s) _ 1 (by simp [maxLen]))
      have BA := Lib.hid (B6.out.alloc s6 (.cells (bv s).toArray 77))
      have HNB : Hid ((j + 1) * 64 ≤ 140737488355328) := Lib.hid (by omega)
      go_wp2_with (first
        | refine wpList_load_mid rfl 77 (.tmp 12) rfl w5.heap.size 0 rfl (bv s) _ R6.out secUnder rfl Z4.out ?_
        | refine wpList_slice_one rfl 56 77 (.tmp 44) rfl 64 (.agg (bv noSec).toArray) (.agg (bv s).toArray) rfl Try.underlying56 wsecInfo (by decide) (by decide) Z5.out ?_
        | (at_builtin; refine wpList_append_any rfl (.tmp 43) (.tmp 45) 56 rfl w1.heap.size 77 (.agg (bv noSec).toArray) 64 64 Try.underlying56 secInfo' Z6.out (by decide) (by decide) (.slice A1 j c1) j _ rfl (O6.out.alloc _) (some ⟨w6.heap.size, 0, none⟩) 1 1 (bv s) rfl SS.out Z7.out (bv_one _) HNB.out BA.out.size ?_))
      intro v' w7 ho7 hg7 _ _
      have HB7 := Lib.hid (BA.out.grown hg7 BA.out.size (fun b hb => (O6.out.lt b hb).1))
      rw [← HT.out] at ho7
      have HO7 := Lib.hid ho7
      clear ho7 hg7
      go_wp2_with fail
      go_roundg (gk - 1)
      case measure => omega
      case rel => exact ⟨j + 1, by omega, by go_num, HO7.out, HB7.out⟩
    · obtain rfl : j = m := by omega
      have hjI : at_ + (j : Int) = 16 := by omega
      rw [List.take_of_length_le (by rw [HRL.out]; omega)] at HO
      have HO' : Hid (wr.ownsRow w1.heap.size 77 64 (.slice A1 rows.length c1) rows.length (sv rows).flatten) := Lib.hid (by rw [HRL.out]; exact HO.out)
      have SA := Lib.hid (SecsAt.of_own HO'.out HRS.out)
      have FO := Lib.hid (fopen_new rows A1 c1 wr SA.out (by rw [HRL.out]; omega))
      rw [HRL.out] at FO
      go_wp2_with fail
      refine FO.out.mono ?_
      rintro e w8 ⟨A8, c8, rfl, hs8, hb8, hn8⟩
      have N8 : Hid (∀ ad, A8 = some ad → w.heap.size < ad.block) := Lib.hid (fun ad had => Nat.lt_of_le_of_lt (Nat.le_trans B1.out.size HB.out.size) (hn8 ad had))
      have S8 := Lib.hid hs8
      have B8 : Hid (Below w.heap.size w w8) := Lib.hid (B1.out.trans ((HB.out.trans (hb8.mono HB.out.size)).mono B1.out.size))
      have RB8 : Hid (w8.heap[w.heap.size]? = some (.cells #[.int .u64 0, .int .u32 0, .slice none 0 0] 40 (0, 0))) := Lib.hid (((HB.out.trans (hb8.mono HB.out.size)).block _ (block_lt RB1.out)).trans RB1.out)
      have LG8 := Lib.hid (H.out.below B8.out)
      have OPS : Hid (l.opens d seg at_ ↔ isRec rows ∧ (openedR rows).seq = l.next ∧ (openedR rows).epoch = l.epoch) := Lib.hid (by unfold Lg.opens; rw [HR.out])
      have OPR : Hid (l.opens d seg at_ → l.openR d seg at_ = openedR rows ∧ l.openN d seg at_ = openedN rows) := Lib.hid (fun ho => by rw [Lg.openR, Lg.openN, if_pos ho, if_pos ho, HR.out]; exact ⟨rfl, rfl⟩)
      clear hs8 hb8 hn8 FO HO' HO HRG hlt hj
      unfold recv
      obtain ⟨R, hR⟩ : ∃ R, openedR rows = R := ⟨_, rfl⟩
      obtain ⟨nn, hnn⟩ : ∃ nn, openedN rows = nn := ⟨_, rfl⟩
      rw [hR] at S8 OPS OPR
      rw [hnn] at OPR
      rw [hR, hnn]
      clear hR hnn
      obtain ⟨rs, re, rp⟩ := R
      simp only at S8 OPS OPR ⊢
      have K9 := Lib.hid (heap_alloc_at w8 (.cells #[.int .u64 rs, .int .u32 re, .slice A8 rp.length c8] 40))
      have B9 : Hid (Below w8.heap.size w8 (w8.alloc (.cells #[.int .u64 rs, .int .u32 re, .slice A8 rp.length c8] 40))) := Lib.hid ((Below.refl _ _).alloc (Nat.le_refl _) _)
      have S9 : Hid (Fg.Src (w8.alloc (.cells #[.int .u64 rs, .int .u32 re, .slice A8 rp.length c8] 40)) A8 rp.length c8 (bv rp)) := Lib.hid (S8.out.same fun ad had hne => heap_alloc_old _ _ (S8.out.lt had hne))
      by_cases hrec : isRec rows
      · rw [decide_eq_true hrec]
        go_upto_region 9 with fail
        generalize w8.alloc (.cells #[.int .u64 rs, .int .u32 re, .slice A8 rp.length c8] 40) = w9 at *
        have B9w : Hid (Below w.heap.size w w9) := Lib.hid (B8.out.trans (B9.out.mono B8.out.size))
        have R9 : Hid (w9.heap[w.heap.size]? = some (.cells #[.int .u64 0, .int .u32 0, .slice none 0 0] 40 (0, 0))) := Lib.hid ((B9.out.block _ (block_lt RB8.out)).trans RB8.out)
        have L9 := Lib.hid (H.out.below B9w.out)
        have z0 := cell_of_block K9.out 0
        have z1 := cell_of_block K9.out 1
        have z2 := cell_of_block K9.out 2
        have y1 := L9.out.cell 1
        have y2 := L9.out.cell 2
        simp only [lcells] at y1 y2
        have r0 := cell_of_block R9.out 0
        have r1 := cell_of_block R9.out 1
        have r2 := cell_of_block R9.out 2
        have f0 := free_of_block R9.out 0
        have f1 := free_of_block R9.out 1
        have f2 := free_of_block R9.out 2
        by_cases hq : rs = l.next
        · by_cases hp : re = l.epoch
          · have HOP := Lib.hid (OPS.out.2 ⟨hrec, hq, hp⟩)
            clear hrec
            subst hq hp
            go_quiet (fail)
            go_wp2_with fail
            have HY : Hid (∀ k y0 y1 y2, LopenE w l d seg at_ (.returned (.tuple #[.agg #[.int .u64 l.next, .int .u32 l.epoch, .slice A8 rp.length c8], .int .i64 nn])) ((((w9.drewN k).setCell ⟨w.heap.size, 0, none⟩ y0).setCell ⟨w.heap.size, 1, none⟩ y1).setCell ⟨w.heap.size, 2, none⟩ y2)) := Lib.hid (by
              intro k y0 y1 y2
              obtain ⟨e1, e2⟩ := OPR.out HOP.out
              refine ⟨A8, c8, by rw [e1, e2]; rfl, ?_, below_set3 (below_drewN B9w.out _), N8.out⟩
              rw [e1]
              refine S9.out.same (fun ad had hne => ?_)
              have hn := src_ne S9.out R9.out (fun i x => by rcases i with _ | _ | _ | i <;> simp) had hne
              exact (hset_other _ _ _ hn).trans ((hset_other _ _ _ hn).trans ((hset_other _ _ _ hn).trans rfl)))
            exact bodyPost_ret (v := .tuple #[.agg #[.int .u64 l.next, .int .u32 l.epoch, .slice A8 rp.length c8], .int .i64 nn]) (res_cell_tmp Try.results57 _ _ w.heap.size 40 _ (0, 0) _ _ rfl rfl (set3 R9.out) Try.underlying40 rfl recInfo) rfl (HY.out _ _ _ _)
          · have HN : Hid (¬ l.opens d seg at_) := Lib.hid (fun ho => hp (OPS.out.1 ho).2.2)
            have hpb : (re == l.epoch) = false := beq_eq_false_iff_ne.2 hp
            clear hrec
            subst hq
            go_quiet (fail)
            go_wp2_with fail
            exact bodyPost_ret (v := .tuple #[.agg #[.int .u64 0, .int .u32 0, .slice none 0 0], .int .i64 0]) (res_cell_tmp Try.results57 _ _ w.heap.size 40 _ (0, 0) _ _ rfl rfl (set3 R9.out) Try.underlying40 rfl recInfo) rfl (LopenE.no HN.out (below_set3 (below_drewN B9w.out _)))
        · have HN : Hid (¬ l.opens d seg at_) := Lib.hid (fun ho => hq (OPS.out.1 ho).2.1)
          have hqb : (rs == l.next) = false := beq_eq_false_iff_ne.2 hq
          clear hrec
          go_quiet (fail)
          go_wp2_with fail
          exact bodyPost_ret (v := .tuple #[.agg #[.int .u64 0, .int .u32 0, .slice none 0 0], .int .i64 0]) (res_cell_tmp Try.results57 _ _ w.heap.size 40 _ (0, 0) _ _ rfl rfl (set3 R9.out) Try.underlying40 rfl recInfo) rfl (LopenE.no HN.out (below_set3 (below_drewN B9w.out _)))
      · have HN : Hid (¬ l.opens d seg at_) := Lib.hid (fun ho => hrec (OPS.out.1 ho).1)
        rw [decide_eq_false hrec]
        clear hrec
        go_upto_region 9 with fail
        generalize w8.alloc (.cells #[.int .u64 rs, .int .u32 re, .slice A8 rp.length c8] 40) = w9 at *
        have B9w : Hid (Below w.heap.size w w9) := Lib.hid (B8.out.trans (B9.out.mono B8.out.size))
        have R9 : Hid (w9.heap[w.heap.size]? = some (.cells #[.int .u64 0, .int .u32 0, .slice none 0 0] 40 (0, 0))) := Lib.hid ((B9.out.block _ (block_lt RB8.out)).trans RB8.out)
        have L9 := Lib.hid (H.out.below B9w.out)
        have z0 := cell_of_block K9.out 0
        have z1 := cell_of_block K9.out 1
        have z2 := cell_of_block K9.out 2
        have y1 := L9.out.cell 1
        have y2 := L9.out.cell 2
        simp only [lcells] at y1 y2
        have r0 := cell_of_block R9.out 0
        have r1 := cell_of_block R9.out 1
        have r2 := cell_of_block R9.out 2
        have f0 := free_of_block R9.out 0
        have f1 := free_of_block R9.out 1
        have f2 := free_of_block R9.out 2
        go_quiet (fail)
        go_wp2_with fail
        exact bodyPost_ret (v := .tuple #[.agg #[.int .u64 0, .int .u32 0, .slice none 0 0], .int .i64 0]) (res_cell_tmp Try.results57 _ _ w.heap.size 40 _ (0, 0) _ _ rfl rfl (set3 R9.out) Try.underlying40 rfl recInfo) rfl (LopenE.no HN.out (below_set3 (below_drewN B9w.out _)))
end Go.Proofs.Ytogkibikghbghaa.Wal
