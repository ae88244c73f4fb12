/- Contracts of wal's step and Sync. Conditions: none beyond each lemma's own hypotheses. -/
import Derived.Test.YtogkibikghbghaaFgWalOpen
set_option linter.unusedVariables false
set_option linter.unusedSimpArgs false
namespace Go.Proofs.Ytogkibikghbghaa.Wal
open Go.RowKit Go.Proofs.Ytogkibikghbghaa.Fg Go.Proofs.Ytogkibikghbghaa.Frame Go.Proofs.Ytogkibikghbghaa.Disk Go.Proofs.Ytogkibikghbghaa.Area

/-- What a step leaves. -/
def LstepE (w : World) (lb g : Nat) (l : Lg) (d : Dk) (F : Nat → Prop) (e : Ending) (w' : World) : Prop :=
  (l.step d = none → e = .returned (.tuple #[.agg #[.int .u64 0, .int .u32 0, .slice none 0 0], .bool false]) ∧ IsLog w' lb g l d F ∧ Below w.heap.size w w') ∧
  (∀ r l', l.step d = some (r, l') → ∃ A c, e = .returned (.tuple #[recv A c r, .bool true]) ∧ Fg.Src w' A r.pay.length c (bv r.pay) ∧ IsLog w' lb g l' d F ∧ Keep (fun k => k = lb) w w' ∧ ∀ ad, A = some ad → w.heap.size < ad.block)

theorem two_alloc {w : World} {lb : Nat} {u v : Value} (h : w.cell? ⟨lb, 4, none⟩ = some u ∧ w.cell? ⟨lb, 5, none⟩ = some v) (o : Obj) (hb : lb < w.heap.size) : (w.alloc o).cell? ⟨lb, 4, none⟩ = some u ∧ (w.alloc o).cell? ⟨lb, 5, none⟩ = some v :=
  ⟨(World.cell?_of_block (a := ⟨lb, 4, none⟩) (heap_alloc_old w o hb)).trans h.1, (World.cell?_of_block (a := ⟨lb, 5, none⟩) (heap_alloc_old w o hb)).trans h.2⟩
theorem set3_old {w : World} {b k : Nat} {y0 y1 y2 : Value} (h : b ≠ k) : (((w.setCell ⟨b, 0, none⟩ y0).setCell ⟨b, 1, none⟩ y1).setCell ⟨b, 2, none⟩ y2).heap[k]? = w.heap[k]? :=
  (hset_other _ _ _ (Ne.symm h)).trans ((hset_other _ _ _ (Ne.symm h)).trans (hset_other _ _ _ (Ne.symm h)))
theorem two_set3 {w : World} {lb b : Nat} {u v y0 y1 y2 : Value} (h : w.cell? ⟨lb, 4, none⟩ = some u ∧ w.cell? ⟨lb, 5, none⟩ = some v) (hb : b ≠ lb) :
    (((w.setCell ⟨b, 0, none⟩ y0).setCell ⟨b, 1, none⟩ y1).setCell ⟨b, 2, none⟩ y2).cell? ⟨lb, 4, none⟩ = some u ∧ (((w.setCell ⟨b, 0, none⟩ y0).setCell ⟨b, 1, none⟩ y1).setCell ⟨b, 2, none⟩ y2).cell? ⟨lb, 5, none⟩ = some v :=
  ⟨(World.cell?_of_block (a := ⟨lb, 4, none⟩) (set3_old hb)).trans h.1, (World.cell?_of_block (a := ⟨lb, 5, none⟩) (set3_old hb)).trans h.2⟩

theorem wrap_small {t n : Int} (h : 0 ≤ n ∧ n ≤ 16 - t) (h0 : 0 ≤ t) (h1 : t ≤ 16) : IntKind.i64.wrap (t + n) = t + n := by rw [IntKind.wrap_i64]; omega
/-- A log that went one record further. -/
theorem step_fin {w wf wg : World} {lb g : Nat} {l l' : Lg} {d : Dk} {F : Nat → Prop} {r : Rec} {A : Option Addr} {c : Nat} (h : IsLog wf lb g l d F) (hlb : lb < w.heap.size) (hF : ∀ k, F k → k < w.heap.size)
    (hr : wf.heap[w.heap.size]? = some (.cells #[.int .u64 0, .int .u32 0, .slice none 0 0] 40 (0, 0)))
    (hs : Fg.Src wf A r.pay.length c (bv r.pay)) (hb : Below w.heap.size w wf) (hst : l.step d = some (r, l')) (hg : wg.heap[lb]? = some (.cells (lcells g l') 87 (0, 0))) (hk : Keep (fun k => k = lb) wf wg) (hn : ∀ ad, A = some ad → w.heap.size < ad.block) (z0 z1 z2 : Value) :
    LstepE w lb g l d F (.returned (.tuple #[recv A c r, .bool true])) (((wg.setCell ⟨w.heap.size, 0, none⟩ z0).setCell ⟨w.heap.size, 1, none⟩ z1).setCell ⟨w.heap.size, 2, none⟩ z2) := by
  have hne : w.heap.size ≠ lb := Nat.ne_of_gt hlb
  have hok := step_ok (N := 0) h.ok h.disk.ok h.byt hst
  have K2 : Keep (fun k => k = lb ∨ k = w.heap.size) wf (((wg.setCell ⟨w.heap.size, 0, none⟩ z0).setCell ⟨w.heap.size, 1, none⟩ z1).setCell ⟨w.heap.size, 2, none⟩ z2) :=
    (((hk.mono (fun i _ h => .inl h)).setCell ⟨w.heap.size, 0, none⟩ z0 (fun _ => .inr rfl)).setCell ⟨w.heap.size, 1, none⟩ z1 (fun _ => .inr rfl)).setCell ⟨w.heap.size, 2, none⟩ z2 (fun _ => .inr rfl)
  refine ⟨fun hn => by rw [hst] at hn; (cases hn), fun r' l'' he => ?_⟩
  rw [hst] at he
  injection he with he
  injection he with e1 e2
  subst e1 e2
  refine ⟨A, c, rfl, ?_, ⟨?_, ?_, h.nf, hok.1, h.byt⟩, ?_, hn⟩
  · refine hs.same fun ad had hne' => K2.block _ (hs.lt had hne') ?_
    rintro (e | e)
    · exact src_ne hs h.head (fun i x => by rcases i with _ | _ | _ | _ | _ | _ | i <;> simp [lcells]) had hne' e
    · exact src_ne hs hr (fun i x => by rcases i with _ | _ | _ | i <;> simp) had hne' e
  · refine h.disk.keep K2 (fun k hk => ?_)
    rintro (e | e)
    · exact h.nf (e ▸ hk)
    · have := hF k hk; omega
  · exact (set3_old hne).trans hg
  · refine (Keep.of_new hb).trans K2 (fun i hi h => ?_)
    rcases h with h | h
    · exact h
    · omega
theorem step_none {w wf : World} {lb g : Nat} {l : Lg} {d : Dk} {F : Nat → Prop} (h : IsLog wf lb g l d F) (hlb : lb < w.heap.size) (hF : ∀ k, F k → k < w.heap.size) (hb : Below w.heap.size w wf) (hst : l.step d = none) (z0 z1 z2 : Value) :
    LstepE w lb g l d F (.returned (.tuple #[.agg #[.int .u64 0, .int .u32 0, .slice none 0 0], .bool false])) (((wf.setCell ⟨w.heap.size, 0, none⟩ z0).setCell ⟨w.heap.size, 1, none⟩ z1).setCell ⟨w.heap.size, 2, none⟩ z2) := by
  have hne : w.heap.size ≠ lb := Nat.ne_of_gt hlb
  refine ⟨fun _ => ⟨rfl, ⟨h.disk.same fun k hk => set3_old (Nat.ne_of_gt (hF k hk)), (set3_old hne).trans h.head, h.nf, h.ok, h.byt⟩, below_set3 hb⟩, fun r l' he => by rw [hst] at he; cases he⟩
theorem set5_at {w : World} {b : Nat} {x0 x1 x2 x3 x4 x5 y5 : Value} {t : TypeId} {fr : Nat × Nat} (h : w.heap[b]? = some (.cells #[x0, x1, x2, x3, x4, x5] t fr)) :
    (w.setCell ⟨b, 5, none⟩ y5).heap[b]? = some (.cells #[x0, x1, x2, x3, x4, y5] t fr) := hset_at _ _ 5 _ h
theorem set45_at {w : World} {b : Nat} {x0 x1 x2 x3 x4 x5 y4 y5 : Value} {t : TypeId} {fr : Nat × Nat} (h : w.heap[b]? = some (.cells #[x0, x1, x2, x3, x4, x5] t fr)) :
    ((w.setCell ⟨b, 4, none⟩ y4).setCell ⟨b, 5, none⟩ y5).heap[b]? = some (.cells #[x0, x1, x2, x3, y4, y5] t fr) := hset_at _ _ 5 _ (hset_at _ _ 4 _ h)

set_option maxRecDepth 100000 in
set_option maxHeartbeats 4000000 in
theorem step_any {w : World} {lb g : Nat} {l : Lg} {d : Dk} {F : Nat → Prop} (h : IsLog w lb g l d F) :
    Calls Try.prog 36 #[.pointer (some ⟨lb, 0, none⟩)] w (LstepE w lb g l d F) := by
  have H := Lib.hid h
  have LO := Lib.hid (fun w' (hb : Below w.heap.size w w') => lopen_any (h.below hb) l.seg l.taken h.ok.sg h.ok.t0 h.ok.t1)
  have LP := Lib.hid (fun w' (hb : Below w.heap.size w w') => lopen_any (h.below hb) (nextV d.st.length l.seg) 0 (nextV_ok h.ok.sg) (Int.le_refl 0) (by decide))
  have BH := Lib.hid (fun w' (hb : Below w.heap.size w w') => behind_any (h.below hb) l.seg)
  have O1 := Lib.hid (openN_range (l := l) h.disk.ok h.byt l.seg h.ok.t0 h.ok.t1)
  have O2 := Lib.hid (openN_range (l := l) h.disk.ok h.byt (nextV d.st.length l.seg) (Int.le_refl 0) (by decide))
  have HLB := Lib.hid (block_lt h.head)
  have T0 := Lib.hid h.ok.t0
  have T1 := Lib.hid h.ok.t1
  have HFL := Lib.hid h.disk.lt
  clear h
  go_enter Try.func36, Try.ntmps36
  have B0 : Hid (Below w.heap.size w (w.alloc (.cells #[.int .u64 0, .int .u32 0, .slice none 0 0] 40))) := Lib.hid ((Below.refl _ _).alloc (Nat.le_refl _) _)
  have RB := Lib.hid (heap_alloc_at w (.cells #[.int .u64 0, .int .u32 0, .slice none 0 0] 40))
  go_upto_region 1 with fail
  generalize w.alloc (.cells #[.int .u64 0, .int .u32 0, .slice none 0 0] 40) = w0 at *
  have L0 := Lib.hid (H.out.below B0.out)
  have c4 := L0.out.cell 4
  have c5 := L0.out.cell 5
  simp only [lcells] at c4 c5
  have BD : Hid (Below w.heap.size w w0.drew) := Lib.hid (Fg.below_dr B0.out)
  have BA : Hid (Below w.heap.size w (w0.drew.alloc (.cells #[.int .u64 0, .int .u32 0, .slice none 0 0] 40))) := Lib.hid (BD.out.alloc BD.out.size _)
  have Q0 : Hid (w0.cell? ⟨lb, 4, none⟩ = some (.int .i64 l.seg) ∧ w0.cell? ⟨lb, 5, none⟩ = some (.int .i64 l.taken)) := Lib.hid ⟨c4, c5⟩
  have n0 : w0.heap.size ≠ lb := Nat.ne_of_gt (block_lt L0.out.head)
  have QD : Hid (∀ o, (w0.drew.alloc o).cell? ⟨lb, 4, none⟩ = some (.int .i64 l.seg) ∧ (w0.drew.alloc o).cell? ⟨lb, 5, none⟩ = some (.int .i64 l.taken)) := Lib.hid fun o => two_alloc (w := w0.drew) Q0.out o (block_lt L0.out.head)
  have ZZ := Lib.hid (heap_alloc_at w0.drew (.cells #[.int .u64 0, .int .u32 0, .slice none 0 0] 40))
  go_region_held3 (fun w' => w'.cell? ⟨lb, 4, none⟩ = some (.int .i64 l.seg) ∧ w'.cell? ⟨lb, 5, none⟩ = some (.int .i64 l.taken)) (first | exact Q0.out | exact QD.out _ | exact QS.out | exact QA.out _ | exact QT.out _ _ _)
    ((go_at_call 57; refine (LO.out _ (by first | exact BD.out | exact BA.out)).mono ?_; rintro e w5 ⟨A5, k5, rfl, hs5, hb5, hn5⟩; unfold recv; have N5 : Hid (∀ ad, A5 = some ad → w.heap.size < ad.block) := Lib.hid (fun ad had => Nat.lt_of_le_of_lt (by first | exact BD.out.size | exact BA.out.size) (hn5 ad had)); clear hn5; have S5 := Lib.hid hs5; have B5 := Lib.hid hb5; clear hs5 hb5
      have BW : Hid (Below w.heap.size w w5) := Lib.hid (by first | exact BD.out.trans (B5.out.mono BD.out.size) | exact BA.out.trans (B5.out.mono BA.out.size))
      have L5 := Lib.hid (H.out.below BW.out)
      have n5 : w5.heap.size ≠ lb := Nat.ne_of_gt (block_lt L5.out.head)
      have QS : Hid (w5.cell? ⟨lb, 4, none⟩ = some (.int .i64 l.seg) ∧ w5.cell? ⟨lb, 5, none⟩ = some (.int .i64 l.taken)) := Lib.hid ⟨L5.out.cell 4, L5.out.cell 5⟩
      have QA : Hid (∀ o, (w5.alloc o).cell? ⟨lb, 4, none⟩ = some (.int .i64 l.seg) ∧ (w5.alloc o).cell? ⟨lb, 5, none⟩ = some (.int .i64 l.taken)) := Lib.hid fun o => two_alloc QS.out o (block_lt L5.out.head)
      have QT : Hid (∀ y0 y1 y2, (((w5.setCell ⟨w0.heap.size, 0, none⟩ y0).setCell ⟨w0.heap.size, 1, none⟩ y1).setCell ⟨w0.heap.size, 2, none⟩ y2).cell? ⟨lb, 4, none⟩ = some (.int .i64 l.seg) ∧ (((w5.setCell ⟨w0.heap.size, 0, none⟩ y0).setCell ⟨w0.heap.size, 1, none⟩ y1).setCell ⟨w0.heap.size, 2, none⟩ y2).cell? ⟨lb, 5, none⟩ = some (.int .i64 l.taken)) := Lib.hid fun y0 y1 y2 => two_set3 QS.out n0
      try (have Z5 : Hid (w5.heap[w0.heap.size]? = some (.cells #[.int .u64 0, .int .u32 0, .slice none 0 0] 40 (0, 0))) := Lib.hid ((B5.out.block _ (block_lt ZZ.out)).trans ZZ.out); have z0 := cell_of_block Z5.out 0; have z1 := cell_of_block Z5.out 1; have z2 := cell_of_block Z5.out 2; have f0 := free_of_block Z5.out 0; have f1 := free_of_block Z5.out 1; have f2 := free_of_block Z5.out 2)))
  · obtain ⟨wf, hwf⟩ : ∃ x, w5.alloc (.cells #[.int .u64 (l.openR d l.seg l.taken).seq, .int .u32 (l.openR d l.seg l.taken).epoch, .slice A5 (l.openR d l.seg l.taken).pay.length k5] 40) = x := ⟨_, rfl⟩
    have RZ := Lib.hid (heap_alloc_at w5 (.cells #[.int .u64 (l.openR d l.seg l.taken).seq, .int .u32 (l.openR d l.seg l.taken).epoch, .slice A5 (l.openR d l.seg l.taken).pay.length k5] 40))
    have BF := Lib.hid (BW.out.alloc BW.out.size (.cells #[.int .u64 (l.openR d l.seg l.taken).seq, .int .u32 (l.openR d l.seg l.taken).epoch, .slice A5 (l.openR d l.seg l.taken).pay.length k5] 40))
    have SF := Lib.hid (S5.out.same fun ad had hne => heap_alloc_old w5 (.cells #[.int .u64 (l.openR d l.seg l.taken).seq, .int .u32 (l.openR d l.seg l.taken).epoch, .slice A5 (l.openR d l.seg l.taken).pay.length k5] 40) (S5.out.lt had hne))
    have RT5 : Hid (w5.heap[w.heap.size]? = some (.cells #[.int .u64 0, .int .u32 0, .slice none 0 0] 40 (0, 0))) := Lib.hid ((B5.out.block _ (block_lt RB.out)).trans RB.out)
    have RT := Lib.hid ((heap_alloc_old w5 (.cells #[.int .u64 (l.openR d l.seg l.taken).seq, .int .u32 (l.openR d l.seg l.taken).epoch, .slice A5 (l.openR d l.seg l.taken).pay.length k5] 40) (block_lt RT5.out)).trans RT5.out)
    have HB4 : Hid (w.heap.size ≤ w5.heap.size) := Lib.hid BW.out.size
    have HB5 : Hid (w5.heap.size ≠ w.heap.size) := Lib.hid (Nat.ne_of_gt (block_lt RT5.out))
    rw [hwf] at RZ BF SF RT ⊢
    clear hwf QA QS QD QT Q0 BD BA BW L5 c4 c5 n5 n0 L0 RT5 S5 B5 LO ZZ B0 RB
    generalize w5.heap.size = b4 at *

    have LF := Lib.hid (H.out.below BF.out)
    have n2 : w.heap.size ≠ lb := Nat.ne_of_gt HLB.out
    have n3 : b4 ≠ lb := Nat.ne_of_gt (Nat.lt_of_lt_of_le HLB.out HB4.out)
    have n4 := HB5.out
    have t0 := cell_of_block RT.out 0
    have t1 := cell_of_block RT.out 1
    have t2 := cell_of_block RT.out 2
    have g0 := free_of_block RT.out 0
    have g1 := free_of_block RT.out 1
    have g2 := free_of_block RT.out 2
    have v0 := cell_of_block RZ.out 0
    have v1 := cell_of_block RZ.out 1
    have v2 := cell_of_block RZ.out 2
    have l0 := LF.out.cell 0
    have l3 := LF.out.cell 3
    have l4 := LF.out.cell 4
    have l5 := LF.out.cell 5
    have e4 := free_of_block LF.out.head 4
    have e5 := free_of_block LF.out.head 5
    simp only [lcells] at l0 l3 l4 l5
    by_cases hn : 0 < l.openN d l.seg l.taken
    · have HST : Hid (l.step d = some (l.openR d l.seg l.taken, { l with taken := l.taken + l.openN d l.seg l.taken })) := Lib.hid (if_pos hn)
      have hw := wrap_small O1.out T0.out T1.out
      have HFIN := Lib.hid (step_fin LF.out HLB.out HFL.out RT.out SF.out BF.out HST.out (wg := wf.setCell ⟨lb, 5, none⟩ (.int .i64 (l.taken + l.openN d l.seg l.taken))) (set5_at LF.out.head) ((Keep.refl (fun k => k = lb) wf).setCell ⟨lb, 5, none⟩ _ (fun _ => rfl)) N5.out)
      generalize l.openN d l.seg l.taken = n at *
      generalize l.openR d l.seg l.taken = r at *
      go_wp2_with fail
      exact bodyPost_ret (v := .tuple #[.agg #[.int .u64 r.seq, .int .u32 r.epoch, .slice A5 r.pay.length k5], .bool true]) (res_cell_tmp Try.results36 _ _ w.heap.size 40 _ (0, 0) _ _ rfl rfl (set3 ((hset_other _ _ _ n2).trans RT.out)) Try.underlying40 rfl recInfo) rfl (HFIN.out _ _ _)
    · have hn0 : l.openN d l.seg l.taken = 0 := by have := O1.out.1; omega
      have HN : Hid (l.openN d l.seg l.taken ≤ 0) := Lib.hid (Int.not_lt.1 hn)
      have BHf := Lib.hid (BH.out wf BF.out)
      rw [hn0]
      clear hn0 hn l0 l3 l5 e4 e5 v0 v1 v2 t0 t1 t2 g0 g1 g2
      go_wp2_with fail
      refine BHf.out.mono ?_
      rintro e w6 ⟨rfl, hb6⟩
      have B6 : Hid (Below w.heap.size w w6) := Lib.hid (BF.out.trans (hb6.mono BF.out.size))
      have L6 := Lib.hid (H.out.below B6.out)
      have R6 : Hid (w6.heap[w.heap.size]? = some (.cells #[.int .u64 0, .int .u32 0, .slice none 0 0] 40 (0, 0))) := Lib.hid ((hb6.block _ (block_lt RT.out)).trans RT.out)
      clear hb6 BHf RZ RT SF LF
      have c3 := L6.out.cell 3
      simp only [lcells] at c3
      have s0 := cell_of_block R6.out 0
      have s1 := cell_of_block R6.out 1
      have s2 := cell_of_block R6.out 2
      have g0 := free_of_block R6.out 0
      have g1 := free_of_block R6.out 1
      have g2 := free_of_block R6.out 2
      by_cases hs : nextV d.st.length l.seg = l.start
      · have HNO : Hid (l.step d = none) := Lib.hid (by unfold Lg.step; rw [if_neg (Int.not_lt.2 HN.out), if_pos hs])
        have hsb : (nextV d.st.length l.seg == l.start) = true := beq_iff_eq.2 hs
        have HFIN := Lib.hid (step_none L6.out HLB.out HFL.out B6.out HNO.out)
        go_wp2_with fail
        exact bodyPost_ret (v := .tuple #[.agg #[.int .u64 0, .int .u32 0, .slice none 0 0], .bool false]) (res_cell_tmp Try.results36 _ _ w.heap.size 40 _ (0, 0) _ _ rfl rfl (set3 R6.out) Try.underlying40 rfl recInfo) rfl (HFIN.out _ _ _)
      · have hsb : (nextV d.st.length l.seg == l.start) = false := beq_eq_false_iff_ne.2 hs
        have HS := Lib.hid hs
        have LPf := Lib.hid (LP.out w6 B6.out)
        obtain ⟨nx, hnx⟩ : ∃ x, nextV d.st.length l.seg = x := ⟨_, rfl⟩
        have HNX := Lib.hid hnx
        rw [hnx] at LPf hsb hs O2 HS ⊢
        clear hnx
        go_wp2_with fail
        refine LPf.out.mono ?_
        rintro e w7 ⟨A7, k7, rfl, hs7, hb7, hn7⟩
        unfold recv
        have N7 : Hid (∀ ad, A7 = some ad → w.heap.size < ad.block) := Lib.hid (fun ad had => Nat.lt_of_le_of_lt B6.out.size (hn7 ad had))
        clear hn7
        have B7 : Hid (Below w.heap.size w w7) := Lib.hid (B6.out.trans (hb7.mono B6.out.size))
        have R7 : Hid (w7.heap[w.heap.size]? = some (.cells #[.int .u64 0, .int .u32 0, .slice none 0 0] 40 (0, 0))) := Lib.hid ((hb7.block _ (block_lt R6.out)).trans R6.out)
        have S7 := Lib.hid hs7
        clear hs7 hb7 c3 s0 s1 s2 g0 g1 g2 LPf
        obtain ⟨r, hr⟩ : ∃ r, l.openR d nx 0 = r := ⟨_, rfl⟩
        obtain ⟨m, hm⟩ : ∃ m, l.openN d nx 0 = m := ⟨_, rfl⟩
        rw [hr] at S7 ⊢
        rw [hm] at O2 ⊢
        have HR := Lib.hid hr
        have HM := Lib.hid hm
        clear hr hm
        have R8 := Lib.hid ((heap_alloc_old w7 (.cells #[.int .u64 r.seq, .int .u32 r.epoch, .slice A7 r.pay.length k7] 40) (block_lt R7.out)).trans R7.out)
        have Z8 := Lib.hid (heap_alloc_at w7 (.cells #[.int .u64 r.seq, .int .u32 r.epoch, .slice A7 r.pay.length k7] 40))
        have B8 := Lib.hid (B7.out.alloc B7.out.size (.cells #[.int .u64 r.seq, .int .u32 r.epoch, .slice A7 r.pay.length k7] 40))
        have S8 := Lib.hid (S7.out.same fun ad had hne => heap_alloc_old w7 (.cells #[.int .u64 r.seq, .int .u32 r.epoch, .slice A7 r.pay.length k7] 40) (S7.out.lt had hne))
        have h78 : Hid (w7.heap.size ≠ w.heap.size) := Lib.hid (Nat.ne_of_gt (block_lt R7.out))
        have h7l : Hid (w7.heap.size ≠ lb) := Lib.hid (Nat.ne_of_gt (Nat.lt_of_lt_of_le HLB.out B7.out.size))
        go_upto_region 9 with fail
        generalize w7.alloc (.cells #[.int .u64 r.seq, .int .u32 r.epoch, .slice A7 r.pay.length k7] 40) = w8 at *
        generalize w7.heap.size = b7 at *
        have L8 := Lib.hid (H.out.below B8.out)
        have s0 := cell_of_block R8.out 0
        have s1 := cell_of_block R8.out 1
        have s2 := cell_of_block R8.out 2
        have g0 := free_of_block R8.out 0
        have g1 := free_of_block R8.out 1
        have g2 := free_of_block R8.out 2
        have v0 := cell_of_block Z8.out 0
        have v1 := cell_of_block Z8.out 1
        have v2 := cell_of_block Z8.out 2
        have l4 := L8.out.cell 4
        have l5 := L8.out.cell 5
        have e4 := free_of_block L8.out.head 4
        have e5 := free_of_block L8.out.head 5
        simp only [lcells] at l4 l5
        have q1 := h78.out
        have q2 := h7l.out
        by_cases hm0 : m = 0
        · have HNO : Hid (l.step d = none) := Lib.hid (by unfold Lg.step; rw [if_neg (Int.not_lt.2 HN.out), HNX.out, if_neg HS.out, HM.out, if_pos hm0])
          have hmb : (m == 0) = true := beq_iff_eq.2 hm0
          have HFIN := Lib.hid (step_none L8.out HLB.out HFL.out B8.out HNO.out)
          go_wp2_with fail
          exact bodyPost_ret (v := .tuple #[.agg #[.int .u64 0, .int .u32 0, .slice none 0 0], .bool false]) (res_cell_tmp Try.results36 _ _ w.heap.size 40 _ (0, 0) _ _ rfl rfl (set3 R8.out) Try.underlying40 rfl recInfo) rfl (HFIN.out _ _ _)
        · have HST : Hid (l.step d = some (r, { l with seg := nx, taken := m })) := Lib.hid (by unfold Lg.step; rw [if_neg (Int.not_lt.2 HN.out), HNX.out, if_neg HS.out, HM.out, if_neg hm0, HR.out])
          have hmb : (m == 0) = false := beq_eq_false_iff_ne.2 hm0
          have HFIN := Lib.hid (step_fin L8.out HLB.out HFL.out R8.out S8.out B8.out HST.out (wg := (w8.setCell ⟨lb, 4, none⟩ (.int .i64 nx)).setCell ⟨lb, 5, none⟩ (.int .i64 m)) (set45_at L8.out.head) (((Keep.refl (fun k => k = lb) w8).setCell ⟨lb, 4, none⟩ _ (fun _ => rfl)).setCell ⟨lb, 5, none⟩ _ (fun _ => rfl)) N7.out)
          go_wp2_with fail
          exact bodyPost_ret (v := .tuple #[.agg #[.int .u64 r.seq, .int .u32 r.epoch, .slice A7 r.pay.length k7], .bool true]) (res_cell_tmp Try.results36 _ _ w.heap.size 40 _ (0, 0) _ _ rfl rfl (set3 ((hset_other _ _ _ n2).trans ((hset_other _ _ _ n2).trans R8.out))) Try.underlying40 rfl recInfo) rfl (HFIN.out _ _ _)
  · obtain ⟨wf, hwf⟩ : ∃ x, (((w5.setCell ⟨w0.heap.size, 0, none⟩ (.int .u64 (l.openR d l.seg l.taken).seq)).setCell ⟨w0.heap.size, 1, none⟩ (.int .u32 (l.openR d l.seg l.taken).epoch)).setCell ⟨w0.heap.size, 2, none⟩ (.slice A5 (l.openR d l.seg l.taken).pay.length k5)) = x := ⟨_, rfl⟩
    have RZ := Lib.hid (set3 (y0 := .int .u64 (l.openR d l.seg l.taken).seq) (y1 := .int .u32 (l.openR d l.seg l.taken).epoch) (y2 := .slice A5 (l.openR d l.seg l.taken).pay.length k5) Z5.out)
    have BF : Hid (Below w.heap.size w (((w5.setCell ⟨w0.heap.size, 0, none⟩ (.int .u64 (l.openR d l.seg l.taken).seq)).setCell ⟨w0.heap.size, 1, none⟩ (.int .u32 (l.openR d l.seg l.taken).epoch)).setCell ⟨w0.heap.size, 2, none⟩ (.slice A5 (l.openR d l.seg l.taken).pay.length k5))) := Lib.hid (((BW.out.setCell (p := ⟨w0.heap.size, 0, none⟩) B0.out.size _).setCell (p := ⟨w0.heap.size, 1, none⟩) B0.out.size _).setCell (p := ⟨w0.heap.size, 2, none⟩) B0.out.size _)
    have SF : Hid (Fg.Src (((w5.setCell ⟨w0.heap.size, 0, none⟩ (.int .u64 (l.openR d l.seg l.taken).seq)).setCell ⟨w0.heap.size, 1, none⟩ (.int .u32 (l.openR d l.seg l.taken).epoch)).setCell ⟨w0.heap.size, 2, none⟩ (.slice A5 (l.openR d l.seg l.taken).pay.length k5)) A5 (l.openR d l.seg l.taken).pay.length k5 (bv (l.openR d l.seg l.taken).pay)) := Lib.hid (S5.out.same fun ad had hne => set3_old (Ne.symm (src_ne S5.out Z5.out (fun i x => by rcases i with _ | _ | _ | i <;> simp) had hne)))
    have RT5 : Hid (w5.heap[w.heap.size]? = some (.cells #[.int .u64 0, .int .u32 0, .slice none 0 0] 40 (0, 0))) := Lib.hid ((B5.out.block _ (Nat.lt_trans (block_lt RB.out) (block_lt ZZ.out))).trans ((heap_alloc_old w0.drew _ (block_lt RB.out)).trans RB.out))
    have RT := Lib.hid ((set3_old (y0 := .int .u64 (l.openR d l.seg l.taken).seq) (y1 := .int .u32 (l.openR d l.seg l.taken).epoch) (y2 := .slice A5 (l.openR d l.seg l.taken).pay.length k5) (Nat.ne_of_gt (block_lt RB.out))).trans RT5.out)
    have HB4 : Hid (w.heap.size ≤ w0.heap.size) := Lib.hid B0.out.size
    have HB5 : Hid (w0.heap.size ≠ w.heap.size) := Lib.hid (Nat.ne_of_gt (block_lt RB.out))
    rw [hwf] at RZ BF SF RT ⊢
    clear hwf QA QS QD QT Q0 BD BA BW L5 c4 c5 n5 n0 L0 RT5 S5 B5 LO ZZ B0 RB Z5 z0 z1 z2 f0 f1 f2
    generalize w0.heap.size = b4 at *

    have LF := Lib.hid (H.out.below BF.out)
    have n2 : w.heap.size ≠ lb := Nat.ne_of_gt HLB.out
    have n3 : b4 ≠ lb := Nat.ne_of_gt (Nat.lt_of_lt_of_le HLB.out HB4.out)
    have n4 := HB5.out
    have t0 := cell_of_block RT.out 0
    have t1 := cell_of_block RT.out 1
    have t2 := cell_of_block RT.out 2
    have g0 := free_of_block RT.out 0
    have g1 := free_of_block RT.out 1
    have g2 := free_of_block RT.out 2
    have v0 := cell_of_block RZ.out 0
    have v1 := cell_of_block RZ.out 1
    have v2 := cell_of_block RZ.out 2
    have l0 := LF.out.cell 0
    have l3 := LF.out.cell 3
    have l4 := LF.out.cell 4
    have l5 := LF.out.cell 5
    have e4 := free_of_block LF.out.head 4
    have e5 := free_of_block LF.out.head 5
    simp only [lcells] at l0 l3 l4 l5
    by_cases hn : 0 < l.openN d l.seg l.taken
    · have HST : Hid (l.step d = some (l.openR d l.seg l.taken, { l with taken := l.taken + l.openN d l.seg l.taken })) := Lib.hid (if_pos hn)
      have hw := wrap_small O1.out T0.out T1.out
      have HFIN := Lib.hid (step_fin LF.out HLB.out HFL.out RT.out SF.out BF.out HST.out (wg := wf.setCell ⟨lb, 5, none⟩ (.int .i64 (l.taken + l.openN d l.seg l.taken))) (set5_at LF.out.head) ((Keep.refl (fun k => k = lb) wf).setCell ⟨lb, 5, none⟩ _ (fun _ => rfl)) N5.out)
      generalize l.openN d l.seg l.taken = n at *
      generalize l.openR d l.seg l.taken = r at *
      go_wp2_with fail
      exact bodyPost_ret (v := .tuple #[.agg #[.int .u64 r.seq, .int .u32 r.epoch, .slice A5 r.pay.length k5], .bool true]) (res_cell_tmp Try.results36 _ _ w.heap.size 40 _ (0, 0) _ _ rfl rfl (set3 ((hset_other _ _ _ n2).trans RT.out)) Try.underlying40 rfl recInfo) rfl (HFIN.out _ _ _)
    · have hn0 : l.openN d l.seg l.taken = 0 := by have := O1.out.1; omega
      have HN : Hid (l.openN d l.seg l.taken ≤ 0) := Lib.hid (Int.not_lt.1 hn)
      have BHf := Lib.hid (BH.out wf BF.out)
      rw [hn0]
      clear hn0 hn l0 l3 l5 e4 e5 v0 v1 v2 t0 t1 t2 g0 g1 g2
      go_wp2_with fail
      refine BHf.out.mono ?_
      rintro e w6 ⟨rfl, hb6⟩
      have B6 : Hid (Below w.heap.size w w6) := Lib.hid (BF.out.trans (hb6.mono BF.out.size))
      have L6 := Lib.hid (H.out.below B6.out)
      have R6 : Hid (w6.heap[w.heap.size]? = some (.cells #[.int .u64 0, .int .u32 0, .slice none 0 0] 40 (0, 0))) := Lib.hid ((hb6.block _ (block_lt RT.out)).trans RT.out)
      clear hb6 BHf RZ RT SF LF
      have c3 := L6.out.cell 3
      simp only [lcells] at c3
      have s0 := cell_of_block R6.out 0
      have s1 := cell_of_block R6.out 1
      have s2 := cell_of_block R6.out 2
      have g0 := free_of_block R6.out 0
      have g1 := free_of_block R6.out 1
      have g2 := free_of_block R6.out 2
      by_cases hs : nextV d.st.length l.seg = l.start
      · have HNO : Hid (l.step d = none) := Lib.hid (by unfold Lg.step; rw [if_neg (Int.not_lt.2 HN.out), if_pos hs])
        have hsb : (nextV d.st.length l.seg == l.start) = true := beq_iff_eq.2 hs
        have HFIN := Lib.hid (step_none L6.out HLB.out HFL.out B6.out HNO.out)
        go_wp2_with fail
        exact bodyPost_ret (v := .tuple #[.agg #[.int .u64 0, .int .u32 0, .slice none 0 0], .bool false]) (res_cell_tmp Try.results36 _ _ w.heap.size 40 _ (0, 0) _ _ rfl rfl (set3 R6.out) Try.underlying40 rfl recInfo) rfl (HFIN.out _ _ _)
      · have hsb : (nextV d.st.length l.seg == l.start) = false := beq_eq_false_iff_ne.2 hs
        have HS := Lib.hid hs
        have LPf := Lib.hid (LP.out w6 B6.out)
        obtain ⟨nx, hnx⟩ : ∃ x, nextV d.st.length l.seg = x := ⟨_, rfl⟩
        have HNX := Lib.hid hnx
        rw [hnx] at LPf hsb hs O2 HS ⊢
        clear hnx
        go_wp2_with fail
        refine LPf.out.mono ?_
        rintro e w7 ⟨A7, k7, rfl, hs7, hb7, hn7⟩
        unfold recv
        have N7 : Hid (∀ ad, A7 = some ad → w.heap.size < ad.block) := Lib.hid (fun ad had => Nat.lt_of_le_of_lt B6.out.size (hn7 ad had))
        clear hn7
        have B7 : Hid (Below w.heap.size w w7) := Lib.hid (B6.out.trans (hb7.mono B6.out.size))
        have R7 : Hid (w7.heap[w.heap.size]? = some (.cells #[.int .u64 0, .int .u32 0, .slice none 0 0] 40 (0, 0))) := Lib.hid ((hb7.block _ (block_lt R6.out)).trans R6.out)
        have S7 := Lib.hid hs7
        clear hs7 hb7 c3 s0 s1 s2 g0 g1 g2 LPf
        obtain ⟨r, hr⟩ : ∃ r, l.openR d nx 0 = r := ⟨_, rfl⟩
        obtain ⟨m, hm⟩ : ∃ m, l.openN d nx 0 = m := ⟨_, rfl⟩
        rw [hr] at S7 ⊢
        rw [hm] at O2 ⊢
        have HR := Lib.hid hr
        have HM := Lib.hid hm
        clear hr hm
        have R8 := Lib.hid ((heap_alloc_old w7 (.cells #[.int .u64 r.seq, .int .u32 r.epoch, .slice A7 r.pay.length k7] 40) (block_lt R7.out)).trans R7.out)
        have Z8 := Lib.hid (heap_alloc_at w7 (.cells #[.int .u64 r.seq, .int .u32 r.epoch, .slice A7 r.pay.length k7] 40))
        have B8 := Lib.hid (B7.out.alloc B7.out.size (.cells #[.int .u64 r.seq, .int .u32 r.epoch, .slice A7 r.pay.length k7] 40))
        have S8 := Lib.hid (S7.out.same fun ad had hne => heap_alloc_old w7 (.cells #[.int .u64 r.seq, .int .u32 r.epoch, .slice A7 r.pay.length k7] 40) (S7.out.lt had hne))
        have h78 : Hid (w7.heap.size ≠ w.heap.size) := Lib.hid (Nat.ne_of_gt (block_lt R7.out))
        have h7l : Hid (w7.heap.size ≠ lb) := Lib.hid (Nat.ne_of_gt (Nat.lt_of_lt_of_le HLB.out B7.out.size))
        go_upto_region 9 with fail
        generalize w7.alloc (.cells #[.int .u64 r.seq, .int .u32 r.epoch, .slice A7 r.pay.length k7] 40) = w8 at *
        generalize w7.heap.size = b7 at *
        have L8 := Lib.hid (H.out.below B8.out)
        have s0 := cell_of_block R8.out 0
        have s1 := cell_of_block R8.out 1
        have s2 := cell_of_block R8.out 2
        have g0 := free_of_block R8.out 0
        have g1 := free_of_block R8.out 1
        have g2 := free_of_block R8.out 2
        have v0 := cell_of_block Z8.out 0
        have v1 := cell_of_block Z8.out 1
        have v2 := cell_of_block Z8.out 2
        have l4 := L8.out.cell 4
        have l5 := L8.out.cell 5
        have e4 := free_of_block L8.out.head 4
        have e5 := free_of_block L8.out.head 5
        simp only [lcells] at l4 l5
        have q1 := h78.out
        have q2 := h7l.out
        by_cases hm0 : m = 0
        · have HNO : Hid (l.step d = none) := Lib.hid (by unfold Lg.step; rw [if_neg (Int.not_lt.2 HN.out), HNX.out, if_neg HS.out, HM.out, if_pos hm0])
          have hmb : (m == 0) = true := beq_iff_eq.2 hm0
          have HFIN := Lib.hid (step_none L8.out HLB.out HFL.out B8.out HNO.out)
          go_wp2_with fail
          exact bodyPost_ret (v := .tuple #[.agg #[.int .u64 0, .int .u32 0, .slice none 0 0], .bool false]) (res_cell_tmp Try.results36 _ _ w.heap.size 40 _ (0, 0) _ _ rfl rfl (set3 R8.out) Try.underlying40 rfl recInfo) rfl (HFIN.out _ _ _)
        · have HST : Hid (l.step d = some (r, { l with seg := nx, taken := m })) := Lib.hid (by unfold Lg.step; rw [if_neg (Int.not_lt.2 HN.out), HNX.out, if_neg HS.out, HM.out, if_neg hm0, HR.out])
          have hmb : (m == 0) = false := beq_eq_false_iff_ne.2 hm0
          have HFIN := Lib.hid (step_fin L8.out HLB.out HFL.out R8.out S8.out B8.out HST.out (wg := (w8.setCell ⟨lb, 4, none⟩ (.int .i64 nx)).setCell ⟨lb, 5, none⟩ (.int .i64 m)) (set45_at L8.out.head) (((Keep.refl (fun k => k = lb) w8).setCell ⟨lb, 4, none⟩ _ (fun _ => rfl)).setCell ⟨lb, 5, none⟩ _ (fun _ => rfl)) N7.out)
          go_wp2_with fail
          exact bodyPost_ret (v := .tuple #[.agg #[.int .u64 r.seq, .int .u32 r.epoch, .slice A7 r.pay.length k7], .bool true]) (res_cell_tmp Try.results36 _ _ w.heap.size 40 _ (0, 0) _ _ rfl rfl (set3 ((hset_other _ _ _ n2).trans ((hset_other _ _ _ n2).trans R8.out))) Try.underlying40 rfl recInfo) rfl (HFIN.out _ _ _)
end Go.Proofs.Ytogkibikghbghaa.Wal
