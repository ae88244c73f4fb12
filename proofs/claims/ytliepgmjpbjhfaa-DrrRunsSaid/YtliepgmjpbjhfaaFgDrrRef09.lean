/- The document's scheduler: Front. Conditions: none beyond each lemma's own hypotheses. Printed by drrref09.py. -/
import Derived.Test.YtliepgmjpbjhfaaFgDrrRef06
import Derived.Test.YtliepgmjpbjhfaaFgDrrFront
set_option linter.unusedVariables false
set_option linter.unusedSimpArgs false
namespace Go.Proofs.Ytliepgmjpbjhfaa.Drr
open Go.RowKit Go.Proofs.Ytliepgmjpbjhfaa.Fg Go.Shelf Go.Maps

def RfF (w : World) (s : Sc) (G : Nat → Prop) (e : Ending) (w' : World) : Prop :=
  ∃ v a b c, s.frontV = .tuple #[.int .i64 a, .int .u64 b, .bool c] ∧ e = .returned (.tuple #[v, .int .i64 a, .int .u64 b, .bool c]) ∧ IsR w' v s.front (fun k => G k ∨ w.heap.size ≤ k) ∧ Below w.heap.size w w'
theorem two_set {w : World} {b : Nat} {u v : Value} {p : Addr} (h : p.block ≠ b) : ((w.setCell ⟨b, 0, none⟩ u).setCell ⟨b, 1, none⟩ v).cell? p = w.cell? p := (World.cell?_of_block (hset_other _ _ _ h)).trans (World.cell?_of_block (hset_other _ _ _ h))
set_option maxRecDepth 100000 in
set_option maxHeartbeats 8000000 in
theorem reffront_any {w : World} {v : Value} {s : Sc} {G : Nat → Prop} (h : IsR w v s G) (hs : s.ok) :
    Calls Try.prog 25 #[v] w (RfF w s G) := by
  obtain ⟨A1, c1, A2, c2, rfl, hr, hG⟩ := h
  have HH := Lib.hid hr
  have HG := Lib.hid hG
  have HS := Lib.hid hs
  obtain ⟨w1, hw1, hB, h0, h1, hz⟩ := two_boxes w #[.slice A1 s.ms.length c1, .slice A2 s.act.length c2] #[.slice none 0 0, .slice none 0 0] 48 48
  have B1 := Lib.hid hB
  have HW := Lib.hid hw1
  have M0 := Lib.hid h0
  have M1 := Lib.hid h1
  have x0 : w1.cell? ⟨w.heap.size, 0, none⟩ = some (.slice A1 s.ms.length c1) := cell_of_block h0 0
  have x1 : w1.cell? ⟨w.heap.size, 1, none⟩ = some (.slice A2 s.act.length c2) := cell_of_block h0 1
  rcases ha : s.act with _ | ⟨x, r⟩
  · have hhd : s.head = none := by unfold Sc.head; rw [ha]
    have T : Hid (s.front = s) := Lib.hid (by unfold Sc.front; rw [hhd])
    have V : Hid (s.frontV = .tuple #[.int .i64 0, .int .u64 0, .bool false]) := Lib.hid (by unfold Sc.frontV; rw [hhd])
    have y2 : w1.cell? ⟨w.heap.size + 1, 0, none⟩ = some (.slice none 0 0) := cell_of_block h1 0
    have y3 : w1.cell? ⟨w.heap.size + 1, 1, none⟩ = some (.slice none 0 0) := cell_of_block h1 1
    have f2 := free_of_block h1 0
    have f3 := free_of_block h1 1
    have FIN := Lib.hid (fin_core (G := G) hB h1 (by omega) (own_same HH.out.r1 fun k hk => hB.block k (HH.out.r1.lt k hk).2) (own_same HH.out.r2 fun k hk => hB.block k (HH.out.r2.lt k hk).2) (fun k hk => .inl (HG.out k hk)))
    have hl : s.act.length = 0 := by rw [ha]; rfl
    rw [hl] at FIN x1 HW
    simp only [List.length_nil]
    clear hw1 hB h0 h1 hz hr hG hs ha hhd hl
    go_enter Try.func25, Try.ntmps25
    go_upto_region 1 with fail
    rw [HW.out]
    go_wp2_with fail
    exact bodyPost_ret (v := .tuple #[.agg #[.slice A1 s.ms.length c1, .slice A2 0 c2], .int .i64 0, .int .u64 0, .bool false]) (by simp [results, Try.results25, go_sem, x0, x1, y2, y3]) rfl ⟨_, _, _, _, V.out, rfl, by rw [T.out]; exact FIN.out.1, FIN.out.2⟩
  · obtain ⟨m, hhd, hmw, hfm, hmo⟩ := head_at hs ha
    obtain ⟨i, hpl, hmi, hil⟩ := plc_some hfm
    subst hmw
    have r2 := hr.r2
    rw [ha] at r2
    obtain ⟨g2, rfl, hg2, hgl2, hcap⟩ := act_one r2
    obtain ⟨g1, rfl, hr1, hgl1⟩ := mrow_at hr.r1 hmi
    have x2 : w1.cell? ⟨g2, 0, none⟩ = some (.int .i64 m.who) := (hB.cell (p := ⟨g2, 0, none⟩) hgl2).trans hg2
    have HR := Lib.hid hr1
    have HGL := Lib.hid hgl1
    have T : Hid (s.front = ⟨upd s.ms m.visit, s.act⟩) := Lib.hid (by unfold Sc.front; rw [hhd])
    have V : Hid (s.frontV = .tuple #[.int .i64 m.who, .int .u64 m.visit.df, .bool true]) := Lib.hid (by unfold Sc.frontV; rw [hhd])
    have HP : Hid (∀ w', Below w.heap.size w w' → Calls Try.prog 35 #[.agg #[.slice (some ⟨g1, 0, none⟩) s.ms.length c1, .slice (some ⟨g2, 0, none⟩) s.act.length c2], .int .i64 m.who] w' fun e w2 => e = .returned (.int .i64 i) ∧ Below w'.heap.size w' w2) := Lib.hid (fun w' hb => by
      refine (place_any (own_same HH.out.r1 fun k hk => hb.block k (HH.out.r1.lt k hk).2) m.who).mono ?_
      rintro e w2 ⟨rfl, hb2⟩
      exact ⟨by rw [hpl], hb2⟩)
    have HC : Hid (∀ w2, Below w1.heap.size w1.drew w2 → (w2.cell? ⟨w.heap.size, 0, none⟩ = some (.slice (some ⟨g1, 0, none⟩) s.ms.length c1) ∧ w2.cell? ⟨w.heap.size, 1, none⟩ = some (.slice (some ⟨g2, 0, none⟩) s.act.length c2) ∧ w2.cell? ⟨g2, 0, none⟩ = some (.int .i64 m.who)) ∧ (w2.heap[w.heap.size]? = some (.cells #[.slice (some ⟨g1, 0, none⟩) s.ms.length c1, .slice (some ⟨g2, 0, none⟩) s.act.length c2] 48 (0, 0)) ∧ w2.heap[w.heap.size + 1]? = some (.cells #[.slice none 0 0, .slice none 0 0] 48 (0, 0))) ∧ Below w.heap.size w w2) := Lib.hid (fun w2 hb2 => by
      have hb3 : Below w1.heap.size w1 w2 := ⟨hb2.os, hb2.tape, hb2.output, hb2.size, hb2.block⟩
      exact ⟨⟨(hb3.cell (p := ⟨w.heap.size, 0, none⟩) (by show w.heap.size < w1.heap.size; omega)).trans x0, (hb3.cell (p := ⟨w.heap.size, 1, none⟩) (by show w.heap.size < w1.heap.size; omega)).trans x1, (hb3.cell (p := ⟨g2, 0, none⟩) (by show g2 < w1.heap.size; omega)).trans x2⟩, ⟨(hb3.block _ (block_lt h0)).trans h0, (hb3.block _ (block_lt h1)).trans h1⟩, hB.trans (hb3.mono (by omega))⟩)
    have hal : s.act.length = r.length + 1 := by rw [ha]; rfl
    have hic : (i : Int) < s.ms.length := by omega
    have hd0 := hmo.d0
    have hd1 := hmo.d1
    have hq0 := hmo.q0
    have hq1 := hmo.q1
    have hrl : (0 : Int) < (r.length : Int) + 1 := by omega
    have hb : ((r.length : Int) + 1 == 0) = false := by simp; omega
    have Y1 : Hid ((Try.prog.info? 75).map (·.size) = some ([.int .i64 m.who, .int .u64 m.q, .int .u64 m.df, .bool m.vis] : List Value).length) := Lib.hid memSize
    have HMI := Lib.hid hmi
    clear hw1 hB h0 h1 hz hr hG hs hhd hfm hmo hpl hmi hil r2 hg2 hgl2 hr1 hgl1 ha
    rw [hal] at HW x1
    simp only [hal] at HP HC
    simp only [List.length_cons]
    go_enter Try.func25, Try.ntmps25
    go_upto_region 1 with fail
    rw [HW.out]
    go_upto_region 3 with fail
    go_region_held3 (fun w' => w'.cell? ⟨w.heap.size, 0, none⟩ = some (.slice (some ⟨g1, 0, none⟩) s.ms.length c1) ∧ w'.cell? ⟨w.heap.size, 1, none⟩ = some (.slice (some ⟨g2, 0, none⟩) (r.length + 1) c2) ∧ w'.cell? ⟨g2, 0, none⟩ = some (.int .i64 m.who)) (first | exact ⟨x0, x1, x2⟩ | exact QS.out)
      ((go_at_call 35; refine (HP.out _ (below_dr B1.out)).mono ?_; rintro e w4 ⟨rfl, hb4⟩; have B4 := HC.out w4 hb4; have QS := Lib.hid B4.1; have N0 := Lib.hid B4.2.1.1; have N1 := Lib.hid B4.2.1.2; have B2 := Lib.hid B4.2.2; clear hb4 B4))
    obtain ⟨y0, y1, y2⟩ := QS.out
    clear x0 x1 x2 HC HP QS
    have R2 := Lib.hid (range_old HR.out B2.out HGL.out)
    have HZ2 : Hid (w.heap.size + 1 < w4.heap.size) := Lib.hid (block_lt N1.out)
    cases hv : m.vis with
    | true =>
      have VI : Hid (m.visit = ⟨m.who, m.q, m.df, true⟩) := Lib.hid (by unfold Mb.visit; rw [if_pos hv, ← hv])
      rw [mrow, hv] at R2
      rw [hv] at Y1
      go_upto_region 5 with (refine wpList_load_mid rfl 75 (.tmp 22) rfl g1 (i * 4) rfl [.int .i64 m.who, .int .u64 m.q, .int .u64 m.df, .bool true] _ R2.out Try.underlying75 rfl Y1.out ?_)
      obtain ⟨w5, hw5, hB5, M5, hz5⟩ := one_box w4 #[.int .i64 m.who, .int .u64 m.q, .int .u64 m.df, .bool true] 75
      rw [hw5]
      have Bw5 : Hid (Below w.heap.size w w5) := Lib.hid (B2.out.trans (hB5.mono B2.out.size))
      have P0 := Lib.hid ((hB5.block _ (block_lt N0.out)).trans N0.out)
      have P1 := Lib.hid ((hB5.block _ (block_lt N1.out)).trans N1.out)
      have P9 := Lib.hid M5
      clear hB5 M5 hw5 y0 y1 y2
      have CH := Lib.hid (change_upd (A2 := some ⟨g2, 0, none⟩) (n2 := r.length + 1) (c2 := c2) (own_same HH.out.r1 fun k hk => Bw5.out.block k (HH.out.r1.lt k hk).2 : w5.drew.ownsRow 0 75 4 (.slice (some ⟨g1, 0, none⟩) s.ms.length c1) s.ms.length (s.ms.map mrow).flatten) HS.out HMI.out m.q (m.df) true)
      have z0 : w5.cell? ⟨w.heap.size, 0, none⟩ = some (.slice (some ⟨g1, 0, none⟩) s.ms.length c1) := cell_of_block P0.out 0
      have z1 : w5.cell? ⟨w.heap.size, 1, none⟩ = some (.slice (some ⟨g2, 0, none⟩) (r.length + 1) c2) := cell_of_block P0.out 1
      have q0 : w5.cell? ⟨w4.heap.size, 0, none⟩ = some (.int .i64 m.who) := cell_of_block P9.out 0
      have q1 : w5.cell? ⟨w4.heap.size, 1, none⟩ = some (.int .u64 m.q) := cell_of_block P9.out 1
      have q2 : w5.cell? ⟨w4.heap.size, 2, none⟩ = some (.int .u64 (m.df)) := cell_of_block P9.out 2
      have q3 : w5.cell? ⟨w4.heap.size, 3, none⟩ = some (.bool true) := cell_of_block P9.out 3
      have HC : Hid (∀ w8, Below w5.heap.size w5.drew w8 → (w8.heap[w.heap.size]? = some (.cells #[.slice (some ⟨g1, 0, none⟩) s.ms.length c1, .slice (some ⟨g2, 0, none⟩) (r.length + 1) c2] 48 (0, 0)) ∧ w8.heap[w.heap.size + 1]? = some (.cells #[.slice none 0 0, .slice none 0 0] 48 (0, 0)) ∧ w8.heap[w4.heap.size]? = some (.cells #[.int .i64 m.who, .int .u64 m.q, .int .u64 (m.df), .bool true] 75 (0, 0))) ∧ Below w.heap.size w w8) := Lib.hid (fun w8 hb8 => by
        have hb9 : Below w5.heap.size w5 w8 := ⟨hb8.os, hb8.tape, hb8.output, hb8.size, hb8.block⟩
        exact ⟨⟨(hb9.block _ (block_lt P0.out)).trans P0.out, (hb9.block _ (block_lt P1.out)).trans P1.out, (hb9.block _ (block_lt P9.out)).trans P9.out⟩, Bw5.out.trans (hb9.mono Bw5.out.size)⟩)
      go_upto_region 8 with fail
      go_region_held3 (fun w' => w'.cell? ⟨w.heap.size, 0, none⟩ = some (.slice (some ⟨g1, 0, none⟩) s.ms.length c1) ∧ w'.cell? ⟨w.heap.size, 1, none⟩ = some (.slice (some ⟨g2, 0, none⟩) (r.length + 1) c2) ∧ w'.cell? ⟨w4.heap.size, 0, none⟩ = some (.int .i64 m.who) ∧ w'.cell? ⟨w4.heap.size, 1, none⟩ = some (.int .u64 m.q) ∧ w'.cell? ⟨w4.heap.size, 2, none⟩ = some (.int .u64 (m.df)) ∧ w'.cell? ⟨w4.heap.size, 3, none⟩ = some (.bool true))
        (first | exact ⟨z0, z1, q0, q1, q2, q3⟩ | exact QS.out | exact QT.out)
        ((go_at_call 36; refine CH.out.mono ?_; rintro e w8 ⟨A8, C8, rfl, ho8, hb8⟩; have B8 := HC.out w8 hb8; have BB := Lib.hid B8.2; have Q1 := Lib.hid B8.1.2.1; have HO8 := Lib.hid ho8
          have y2 : w8.cell? ⟨w.heap.size + 1, 0, none⟩ = some (.slice none 0 0) := cell_of_block Q1.out 0
          have y3 : w8.cell? ⟨w.heap.size + 1, 1, none⟩ = some (.slice none 0 0) := cell_of_block Q1.out 1
          have f2 := free_of_block Q1.out 0
          have f3 := free_of_block Q1.out 1
          have QS : Hid (w8.cell? ⟨w.heap.size, 0, none⟩ = some (.slice (some ⟨g1, 0, none⟩) s.ms.length c1) ∧ w8.cell? ⟨w.heap.size, 1, none⟩ = some (.slice (some ⟨g2, 0, none⟩) (r.length + 1) c2) ∧ w8.cell? ⟨w4.heap.size, 0, none⟩ = some (.int .i64 m.who) ∧ w8.cell? ⟨w4.heap.size, 1, none⟩ = some (.int .u64 m.q) ∧ w8.cell? ⟨w4.heap.size, 2, none⟩ = some (.int .u64 (m.df)) ∧ w8.cell? ⟨w4.heap.size, 3, none⟩ = some (.bool true)) := Lib.hid ⟨cell_of_block B8.1.1 0, cell_of_block B8.1.1 1, cell_of_block B8.1.2.2 0, cell_of_block B8.1.2.2 1, cell_of_block B8.1.2.2 2, cell_of_block B8.1.2.2 3⟩
          have HNE : w4.heap.size ≠ w.heap.size + 1 := by have := HZ2.out; omega
          have QT : Hid (((w8.setCell ⟨w.heap.size + 1, 0, none⟩ (.slice A8 s.ms.length C8)).setCell ⟨w.heap.size + 1, 1, none⟩ (.slice (some ⟨g2, 0, none⟩) (r.length + 1) c2)).cell? ⟨w.heap.size, 0, none⟩ = some (.slice (some ⟨g1, 0, none⟩) s.ms.length c1) ∧ ((w8.setCell ⟨w.heap.size + 1, 0, none⟩ (.slice A8 s.ms.length C8)).setCell ⟨w.heap.size + 1, 1, none⟩ (.slice (some ⟨g2, 0, none⟩) (r.length + 1) c2)).cell? ⟨w.heap.size, 1, none⟩ = some (.slice (some ⟨g2, 0, none⟩) (r.length + 1) c2) ∧ ((w8.setCell ⟨w.heap.size + 1, 0, none⟩ (.slice A8 s.ms.length C8)).setCell ⟨w.heap.size + 1, 1, none⟩ (.slice (some ⟨g2, 0, none⟩) (r.length + 1) c2)).cell? ⟨w4.heap.size, 0, none⟩ = some (.int .i64 m.who) ∧ ((w8.setCell ⟨w.heap.size + 1, 0, none⟩ (.slice A8 s.ms.length C8)).setCell ⟨w.heap.size + 1, 1, none⟩ (.slice (some ⟨g2, 0, none⟩) (r.length + 1) c2)).cell? ⟨w4.heap.size, 1, none⟩ = some (.int .u64 m.q) ∧ ((w8.setCell ⟨w.heap.size + 1, 0, none⟩ (.slice A8 s.ms.length C8)).setCell ⟨w.heap.size + 1, 1, none⟩ (.slice (some ⟨g2, 0, none⟩) (r.length + 1) c2)).cell? ⟨w4.heap.size, 2, none⟩ = some (.int .u64 (m.df)) ∧ ((w8.setCell ⟨w.heap.size + 1, 0, none⟩ (.slice A8 s.ms.length C8)).setCell ⟨w.heap.size + 1, 1, none⟩ (.slice (some ⟨g2, 0, none⟩) (r.length + 1) c2)).cell? ⟨w4.heap.size, 3, none⟩ = some (.bool true)) := Lib.hid ⟨(two_set (by show w.heap.size ≠ w.heap.size + 1; omega)).trans QS.out.1, (two_set (by show w.heap.size ≠ w.heap.size + 1; omega)).trans QS.out.2.1, (two_set HNE).trans QS.out.2.2.1, (two_set HNE).trans QS.out.2.2.2.1, (two_set HNE).trans QS.out.2.2.2.2.1, (two_set HNE).trans QS.out.2.2.2.2.2⟩
          have FIN := Lib.hid (fin_core (w := w) (w3 := w8) (b := w.heap.size + 1) (s' := ⟨upd s.ms ⟨m.who, m.q, m.df, true⟩, s.act⟩) (G := G) (A1 := A8) (A2 := some ⟨g2, 0, none⟩) (c1 := C8) (c2 := c2) BB.out Q1.out (by omega) (own_base HO8.out (Nat.zero_le _)) (own_same HH.out.r2 fun k hk => BB.out.block k (HH.out.r2.lt k hk).2)
            (fun k hk => hk.elim (fun hk => .inr (by have h1 : w5.heap.size ≤ k := (HO8.out.lt k hk).1; have := Bw5.out.size; omega)) (fun hk => .inl (HG.out k (.inr hk)))))
          simp only [upd_length, hal] at FIN
          clear ho8 hb8 B8 HNE))
      go_wp2_with fail
      exact bodyPost_ret (v := .tuple #[.agg #[.slice A8 s.ms.length C8, .slice (some ⟨g2, 0, none⟩) (r.length + 1) c2], .int .i64 m.who, .int .u64 (m.df), .bool true]) (by simp [results, Try.results25, go_sem, y2, y3]) rfl ⟨_, _, _, _, V.out, by rw [VI.out], by rw [T.out, VI.out]; exact FIN.out.1, FIN.out.2⟩
    | false =>
      have VI : Hid (m.visit = ⟨m.who, m.q, min (m.df + m.q) 18446744073709551615, true⟩) := Lib.hid (by unfold Mb.visit; rw [if_neg (by rw [hv]; decide)])
      have AD := Lib.hid (fun w' => add01_any m.df m.q ⟨hd0, hd1⟩ ⟨by omega, by omega⟩ w')
      rw [mrow, hv] at R2
      rw [hv] at Y1
      go_upto_region 6 with (refine wpList_load_mid rfl 75 (.tmp 22) rfl g1 (i * 4) rfl [.int .i64 m.who, .int .u64 m.q, .int .u64 m.df, .bool false] _ R2.out Try.underlying75 rfl Y1.out ?_)
      go_upto_region 7 with fail
      obtain ⟨w5, hw5, hB5, M5, hz5⟩ := one_box w4 #[.int .i64 m.who, .int .u64 m.q, .int .u64 m.df, .bool true] 75
      rw [hw5]
      have q1 : w5.cell? ⟨w4.heap.size, 1, none⟩ = some (.int .u64 m.q) := cell_of_block M5 1
      have q2 : w5.cell? ⟨w4.heap.size, 2, none⟩ = some (.int .u64 m.df) := cell_of_block M5 2
      have Bw5 : Hid (Below w.heap.size w w5) := Lib.hid (B2.out.trans (hB5.mono B2.out.size))
      have P0 := Lib.hid ((hB5.block _ (block_lt N0.out)).trans N0.out)
      have P1 := Lib.hid ((hB5.block _ (block_lt N1.out)).trans N1.out)
      have P9 := Lib.hid M5
      clear hB5 M5 hw5 y0 y1 y2
      go_wp2_with fail
      refine (AD.out w5).mono ?_
      rintro e w6 ⟨rfl, hb6⟩
      generalize min (m.df + m.q) 18446744073709551615 = df2 at *
      have O0 := (hb6.block _ (block_lt P0.out)).trans P0.out
      have O1 := (hb6.block _ (block_lt P1.out)).trans P1.out
      have O9 := (hb6.block _ (block_lt P9.out)).trans P9.out
      have z9 : w6.cell? ⟨w4.heap.size, 2, none⟩ = some (.int .u64 m.df) := cell_of_block O9 2
      have f9 := free_of_block O9 2
      obtain ⟨w7, hw7⟩ : ∃ w7, w6.setCell ⟨w4.heap.size, 2, none⟩ (.int .u64 df2) = w7 := ⟨_, rfl⟩
      have HW7 := Lib.hid hw7
      have HN0 : w.heap.size ≠ w4.heap.size := by have := HZ2.out; omega
      have HN1 : w.heap.size + 1 ≠ w4.heap.size := by have := HZ2.out; omega
      have S0 : Hid (w7.heap[w.heap.size]? = some (.cells #[.slice (some ⟨g1, 0, none⟩) s.ms.length c1, .slice (some ⟨g2, 0, none⟩) (r.length + 1) c2] 48 (0, 0))) := Lib.hid (by rw [← hw7]; exact (hset_other _ _ _ HN0).trans O0)
      have S1 : Hid (w7.heap[w.heap.size + 1]? = some (.cells #[.slice none 0 0, .slice none 0 0] 48 (0, 0))) := Lib.hid (by rw [← hw7]; exact (hset_other _ _ _ HN1).trans O1)
      have S9 : Hid (w7.heap[w4.heap.size]? = some (.cells #[.int .i64 m.who, .int .u64 m.q, .int .u64 df2, .bool true] 75 (0, 0))) := Lib.hid (by rw [← hw7]; exact hset_at w6 w4.heap.size 2 _ O9)
      have Bw7 : Hid (Below w.heap.size w w7) := Lib.hid (by rw [← hw7]; exact (Bw5.out.trans (hb6.mono Bw5.out.size)).setCell (p := ⟨w4.heap.size, 2, none⟩) (by have := HZ2.out; show w.heap.size ≤ w4.heap.size; omega) _)
      clear hb6 O0 O1 O9 hw7 P0 P1 P9 q1 q2 HN0 HN1
      go_upto_region 8 with fail
      rw [HW7.out]
      clear z9 f9 HW7
      have P0 := Lib.hid S0.out
      have P1 := Lib.hid S1.out
      have P9 := Lib.hid S9.out
      clear S0 S1 S9
      have CH := Lib.hid (change_upd (A2 := some ⟨g2, 0, none⟩) (n2 := r.length + 1) (c2 := c2) (own_same HH.out.r1 fun k hk => Bw7.out.block k (HH.out.r1.lt k hk).2 : w7.drew.ownsRow 0 75 4 (.slice (some ⟨g1, 0, none⟩) s.ms.length c1) s.ms.length (s.ms.map mrow).flatten) HS.out HMI.out m.q (df2) true)
      have z0 : w7.cell? ⟨w.heap.size, 0, none⟩ = some (.slice (some ⟨g1, 0, none⟩) s.ms.length c1) := cell_of_block P0.out 0
      have z1 : w7.cell? ⟨w.heap.size, 1, none⟩ = some (.slice (some ⟨g2, 0, none⟩) (r.length + 1) c2) := cell_of_block P0.out 1
      have q0 : w7.cell? ⟨w4.heap.size, 0, none⟩ = some (.int .i64 m.who) := cell_of_block P9.out 0
      have q1 : w7.cell? ⟨w4.heap.size, 1, none⟩ = some (.int .u64 m.q) := cell_of_block P9.out 1
      have q2 : w7.cell? ⟨w4.heap.size, 2, none⟩ = some (.int .u64 (df2)) := cell_of_block P9.out 2
      have q3 : w7.cell? ⟨w4.heap.size, 3, none⟩ = some (.bool true) := cell_of_block P9.out 3
      have HC : Hid (∀ w8, Below w7.heap.size w7.drew w8 → (w8.heap[w.heap.size]? = some (.cells #[.slice (some ⟨g1, 0, none⟩) s.ms.length c1, .slice (some ⟨g2, 0, none⟩) (r.length + 1) c2] 48 (0, 0)) ∧ w8.heap[w.heap.size + 1]? = some (.cells #[.slice none 0 0, .slice none 0 0] 48 (0, 0)) ∧ w8.heap[w4.heap.size]? = some (.cells #[.int .i64 m.who, .int .u64 m.q, .int .u64 (df2), .bool true] 75 (0, 0))) ∧ Below w.heap.size w w8) := Lib.hid (fun w8 hb8 => by
        have hb9 : Below w7.heap.size w7 w8 := ⟨hb8.os, hb8.tape, hb8.output, hb8.size, hb8.block⟩
        exact ⟨⟨(hb9.block _ (block_lt P0.out)).trans P0.out, (hb9.block _ (block_lt P1.out)).trans P1.out, (hb9.block _ (block_lt P9.out)).trans P9.out⟩, Bw7.out.trans (hb9.mono Bw7.out.size)⟩)
      go_region_held3 (fun w' => w'.cell? ⟨w.heap.size, 0, none⟩ = some (.slice (some ⟨g1, 0, none⟩) s.ms.length c1) ∧ w'.cell? ⟨w.heap.size, 1, none⟩ = some (.slice (some ⟨g2, 0, none⟩) (r.length + 1) c2) ∧ w'.cell? ⟨w4.heap.size, 0, none⟩ = some (.int .i64 m.who) ∧ w'.cell? ⟨w4.heap.size, 1, none⟩ = some (.int .u64 m.q) ∧ w'.cell? ⟨w4.heap.size, 2, none⟩ = some (.int .u64 (df2)) ∧ w'.cell? ⟨w4.heap.size, 3, none⟩ = some (.bool true))
        (first | exact ⟨z0, z1, q0, q1, q2, q3⟩ | exact QS.out | exact QT.out)
        ((go_at_call 36; refine CH.out.mono ?_; rintro e w8 ⟨A8, C8, rfl, ho8, hb8⟩; have B8 := HC.out w8 hb8; have BB := Lib.hid B8.2; have Q1 := Lib.hid B8.1.2.1; have HO8 := Lib.hid ho8
          have y2 : w8.cell? ⟨w.heap.size + 1, 0, none⟩ = some (.slice none 0 0) := cell_of_block Q1.out 0
          have y3 : w8.cell? ⟨w.heap.size + 1, 1, none⟩ = some (.slice none 0 0) := cell_of_block Q1.out 1
          have f2 := free_of_block Q1.out 0
          have f3 := free_of_block Q1.out 1
          have QS : Hid (w8.cell? ⟨w.heap.size, 0, none⟩ = some (.slice (some ⟨g1, 0, none⟩) s.ms.length c1) ∧ w8.cell? ⟨w.heap.size, 1, none⟩ = some (.slice (some ⟨g2, 0, none⟩) (r.length + 1) c2) ∧ w8.cell? ⟨w4.heap.size, 0, none⟩ = some (.int .i64 m.who) ∧ w8.cell? ⟨w4.heap.size, 1, none⟩ = some (.int .u64 m.q) ∧ w8.cell? ⟨w4.heap.size, 2, none⟩ = some (.int .u64 (df2)) ∧ w8.cell? ⟨w4.heap.size, 3, none⟩ = some (.bool true)) := Lib.hid ⟨cell_of_block B8.1.1 0, cell_of_block B8.1.1 1, cell_of_block B8.1.2.2 0, cell_of_block B8.1.2.2 1, cell_of_block B8.1.2.2 2, cell_of_block B8.1.2.2 3⟩
          have HNE : w4.heap.size ≠ w.heap.size + 1 := by have := HZ2.out; omega
          have QT : Hid (((w8.setCell ⟨w.heap.size + 1, 0, none⟩ (.slice A8 s.ms.length C8)).setCell ⟨w.heap.size + 1, 1, none⟩ (.slice (some ⟨g2, 0, none⟩) (r.length + 1) c2)).cell? ⟨w.heap.size, 0, none⟩ = some (.slice (some ⟨g1, 0, none⟩) s.ms.length c1) ∧ ((w8.setCell ⟨w.heap.size + 1, 0, none⟩ (.slice A8 s.ms.length C8)).setCell ⟨w.heap.size + 1, 1, none⟩ (.slice (some ⟨g2, 0, none⟩) (r.length + 1) c2)).cell? ⟨w.heap.size, 1, none⟩ = some (.slice (some ⟨g2, 0, none⟩) (r.length + 1) c2) ∧ ((w8.setCell ⟨w.heap.size + 1, 0, none⟩ (.slice A8 s.ms.length C8)).setCell ⟨w.heap.size + 1, 1, none⟩ (.slice (some ⟨g2, 0, none⟩) (r.length + 1) c2)).cell? ⟨w4.heap.size, 0, none⟩ = some (.int .i64 m.who) ∧ ((w8.setCell ⟨w.heap.size + 1, 0, none⟩ (.slice A8 s.ms.length C8)).setCell ⟨w.heap.size + 1, 1, none⟩ (.slice (some ⟨g2, 0, none⟩) (r.length + 1) c2)).cell? ⟨w4.heap.size, 1, none⟩ = some (.int .u64 m.q) ∧ ((w8.setCell ⟨w.heap.size + 1, 0, none⟩ (.slice A8 s.ms.length C8)).setCell ⟨w.heap.size + 1, 1, none⟩ (.slice (some ⟨g2, 0, none⟩) (r.length + 1) c2)).cell? ⟨w4.heap.size, 2, none⟩ = some (.int .u64 (df2)) ∧ ((w8.setCell ⟨w.heap.size + 1, 0, none⟩ (.slice A8 s.ms.length C8)).setCell ⟨w.heap.size + 1, 1, none⟩ (.slice (some ⟨g2, 0, none⟩) (r.length + 1) c2)).cell? ⟨w4.heap.size, 3, none⟩ = some (.bool true)) := Lib.hid ⟨(two_set (by show w.heap.size ≠ w.heap.size + 1; omega)).trans QS.out.1, (two_set (by show w.heap.size ≠ w.heap.size + 1; omega)).trans QS.out.2.1, (two_set HNE).trans QS.out.2.2.1, (two_set HNE).trans QS.out.2.2.2.1, (two_set HNE).trans QS.out.2.2.2.2.1, (two_set HNE).trans QS.out.2.2.2.2.2⟩
          have FIN := Lib.hid (fin_core (w := w) (w3 := w8) (b := w.heap.size + 1) (s' := ⟨upd s.ms ⟨m.who, m.q, df2, true⟩, s.act⟩) (G := G) (A1 := A8) (A2 := some ⟨g2, 0, none⟩) (c1 := C8) (c2 := c2) BB.out Q1.out (by omega) (own_base HO8.out (Nat.zero_le _)) (own_same HH.out.r2 fun k hk => BB.out.block k (HH.out.r2.lt k hk).2)
            (fun k hk => hk.elim (fun hk => .inr (by have h1 : w7.heap.size ≤ k := (HO8.out.lt k hk).1; have := Bw7.out.size; omega)) (fun hk => .inl (HG.out k (.inr hk)))))
          simp only [upd_length, hal] at FIN
          clear ho8 hb8 B8 HNE))
      go_wp2_with fail
      exact bodyPost_ret (v := .tuple #[.agg #[.slice A8 s.ms.length C8, .slice (some ⟨g2, 0, none⟩) (r.length + 1) c2], .int .i64 m.who, .int .u64 (df2), .bool true]) (by simp [results, Try.results25, go_sem, y2, y3]) rfl ⟨_, _, _, _, V.out, by rw [VI.out], by rw [T.out, VI.out]; exact FIN.out.1, FIN.out.2⟩
end Go.Proofs.Ytliepgmjpbjhfaa.Drr
