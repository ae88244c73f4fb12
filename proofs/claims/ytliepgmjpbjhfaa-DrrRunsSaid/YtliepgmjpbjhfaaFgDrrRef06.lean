/- The document's scheduler: Spend. Conditions: none beyond each lemma's own hypotheses. -/
import Derived.Test.YtliepgmjpbjhfaaFgDrrRef05
set_option linter.unusedVariables false
set_option linter.unusedSimpArgs false
namespace Go.Proofs.Ytliepgmjpbjhfaa.Drr
open Go.RowKit Go.Proofs.Ytliepgmjpbjhfaa.Fg Go.Shelf Go.Maps

theorem change_upd {w : World} {A1 A2 : Option Addr} {c1 n2 c2 : Nat} {s : Sc} (h : w.ownsRow 0 75 4 (.slice A1 s.ms.length c1) s.ms.length (s.ms.map mrow).flatten) (hs : s.ok) {i : Nat} {m : Mb} (hi : s.ms[i]? = some m) (b c : Int) (d : Bool) :
    Calls Try.prog 36 #[.agg #[.slice A1 s.ms.length c1, .slice A2 n2 c2], .int .i64 i, .agg #[.int .i64 m.who, .int .u64 b, .int .u64 c, .bool d]] w fun e w' =>
      ∃ A C, e = .returned (.agg #[.slice A s.ms.length C, .slice A2 n2 c2]) ∧ w'.ownsRow w.heap.size 75 4 (.slice A (upd s.ms ⟨m.who, b, c, d⟩).length C) (upd s.ms ⟨m.who, b, c, d⟩).length ((upd s.ms ⟨m.who, b, c, d⟩).map mrow).flatten ∧ Below w.heap.size w w' := by
  refine (change_any h hs.few i (List.getElem?_eq_some_iff.1 hi).1 m.who b c d).mono ?_
  rintro e w' ⟨A, C, rfl, ho, hb⟩
  refine ⟨A, C, rfl, ?_, hb⟩
  rw [upd_length, ← set_upd (m' := ⟨m.who, b, c, d⟩) hs.apart hi rfl]
  exact ho
theorem visI_some {s : Sc} {m : Mb} (h : s.fv = some m) : ∃ i : Nat, visI s = i ∧ s.ms[i]? = some m ∧ i < s.ms.length := by
  obtain ⟨r, -, hf⟩ := head_some (fv_some h).1
  obtain ⟨i, h1, h2, h3⟩ := plc_some hf
  exact ⟨i, by unfold visI; rw [h]; exact h1, h2, h3⟩
theorem range_old {w w' : World} {g o : Nat} {vs : List Value} (h : w.rangeAt g o vs) (hb : Below w.heap.size w w') (hg : g < w.heap.size) : w'.rangeAt g o vs := fun i v hv => (hb.cell (p := ⟨g, o + i, none⟩) hg).trans (h i v hv)
set_option maxRecDepth 100000 in
set_option maxHeartbeats 4000000 in
theorem refspend_any {w : World} {v : Value} {s : Sc} {G : Nat → Prop} (h : IsR w v s G) (hs : s.ok) (n : Int) (hn : 0 ≤ n) :
    Calls Try.prog 26 #[v, .int .u64 n] w (RfE w (s.spend n) G (.bool (s.spendB n))) := by
  obtain ⟨A1, c1, A2, c2, rfl, hr, hG⟩ := h
  have HH := Lib.hid hr
  have HG := Lib.hid hG
  have HS := Lib.hid hs
  obtain ⟨w1, hw1, hB, h0, h1, hz⟩ := two_boxes w #[.slice A1 s.ms.length c1, .slice A2 s.act.length c2] #[.slice none 0 0, .slice none 0 0] 48 48
  have B1 := Lib.hid hB
  have HW := Lib.hid hw1
  have HZ := Lib.hid hz
  have M0 := Lib.hid h0
  have M1 := Lib.hid h1
  have x0 : w1.cell? ⟨w.heap.size, 0, none⟩ = some (.slice A1 s.ms.length c1) := cell_of_block h0 0
  have x1 : w1.cell? ⟨w.heap.size, 1, none⟩ = some (.slice A2 s.act.length c2) := cell_of_block h0 1
  have HP : Hid (∀ w', Below w.heap.size w w' → Calls Try.prog 39 #[.agg #[.slice A1 s.ms.length c1, .slice A2 s.act.length c2]] w' fun e w2 => e = .returned (.int .i64 (visI s)) ∧ Below w'.heap.size w' w2) := Lib.hid (fun w' hb =>
      visited_any ⟨own_same HH.out.r1 fun k hk => hb.block k (HH.out.r1.lt k hk).2, own_same HH.out.r2 fun k hk => hb.block k (HH.out.r2.lt k hk).2⟩ HS.out)
  have HF : Hid (∀ w3, Below w.heap.size w w3 → w3.heap[w.heap.size + 1]? = some (.cells #[.slice none 0 0, .slice none 0 0] 48 (0, 0)) → IsR ((w3.setCell ⟨w.heap.size + 1, 0, none⟩ (.slice A1 s.ms.length c1)).setCell ⟨w.heap.size + 1, 1, none⟩ (.slice A2 s.act.length c2)) (.agg #[.slice A1 s.ms.length c1, .slice A2 s.act.length c2]) s (fun k => G k ∨ w.heap.size ≤ k) ∧
      Below w.heap.size w ((w3.setCell ⟨w.heap.size + 1, 0, none⟩ (.slice A1 s.ms.length c1)).setCell ⟨w.heap.size + 1, 1, none⟩ (.slice A2 s.act.length c2))) := Lib.hid (fun w3 hb M =>
    fin_core hb M (by omega) (own_same HH.out.r1 fun k hk => hb.block k (HH.out.r1.lt k hk).2) (own_same HH.out.r2 fun k hk => hb.block k (HH.out.r2.lt k hk).2) (fun k hk => .inl (HG.out k hk)))
  clear hw1 hB h0 h1 hz hr hG hs
  cases hf : s.fv with
  | none =>
    have E : Hid (s.spend n = s ∧ s.spendB n = false) := Lib.hid (by unfold Sc.spend Sc.spendB; rw [hf]; exact ⟨rfl, rfl⟩)
    rw [show visI s = -1 by unfold visI; rw [hf]] at HP
    clear hf
    go_enter Try.func26, Try.ntmps26
    go_upto_region 1 with fail
    rw [HW.out]
    go_wp2_with fail
    refine (HP.out w1 B1.out).mono ?_
    rintro e w2 ⟨rfl, hb2⟩
    have N0 := (hb2.block _ (block_lt M0.out)).trans M0.out
    have N1 := (hb2.block _ (block_lt M1.out)).trans M1.out
    have y0 : w2.cell? ⟨w.heap.size, 0, none⟩ = some (.slice A1 s.ms.length c1) := cell_of_block N0 0
    have y1 : w2.cell? ⟨w.heap.size, 1, none⟩ = some (.slice A2 s.act.length c2) := cell_of_block N0 1
    have y2 : w2.cell? ⟨w.heap.size + 1, 0, none⟩ = some (.slice none 0 0) := cell_of_block N1 0
    have y3 : w2.cell? ⟨w.heap.size + 1, 1, none⟩ = some (.slice none 0 0) := cell_of_block N1 1
    have f2 := free_of_block N1 0
    have f3 := free_of_block N1 1
    have FIN := Lib.hid (HF.out w2 (B1.out.trans (hb2.mono (by rw [HZ.out]; omega))) N1)
    clear hb2 N0 N1 x0 x1
    go_wp2_with fail
    exact bodyPost_ret (v := .tuple #[.agg #[.slice A1 s.ms.length c1, .slice A2 s.act.length c2], .bool false]) (by simp [results, Try.results26, go_sem, y0, y1, y2, y3]) rfl ⟨_, by rw [E.out.2], by rw [E.out.1]; exact FIN.out.1, FIN.out.2⟩
  | some m =>
    obtain ⟨i, hvi, hmi, hil⟩ := visI_some hf
    obtain ⟨g1, rfl, hr1, hgl1⟩ := mrow_at HH.out.r1 hmi
    have HR := Lib.hid hr1
    have HGL := Lib.hid hgl1
    have HMI := Lib.hid hmi
    rw [hvi] at HP
    have hok := HS.out.each m (List.mem_of_getElem? hmi)
    have hd0 := hok.d0
    have hd1 := hok.d1
    have hic : (i : Int) < s.ms.length := by omega
    have hi0 : decide ((i : Int) < 0) = false := decide_eq_false (by omega)
    have Y1 : Hid ((Try.prog.info? 75).map (·.size) = some ([.int .i64 m.who, .int .u64 m.q, .int .u64 m.df, .bool m.vis] : List Value).length) := Lib.hid memSize
    by_cases hle : n ≤ m.df
    · have E : Hid (s.spend n = ⟨upd s.ms ⟨m.who, m.q, m.df - n, m.vis⟩, s.act⟩ ∧ s.spendB n = true) := Lib.hid (by unfold Sc.spend Sc.spendB; rw [hf]; exact ⟨if_pos hle, decide_eq_true hle⟩)
      have hgt : decide (m.df < n) = false := decide_eq_false (by omega)
      have CH := Lib.hid (fun w' hb => change_upd (A2 := A2) (n2 := s.act.length) (c2 := c2) (own_same HH.out.r1 fun k hk => hb.block k (HH.out.r1.lt k hk).2) HS.out hmi m.q (m.df - n) m.vis : ∀ w', Below w.heap.size w w' → _)
      clear hf hvi hmi hil hr1 hgl1 hok
      go_enter Try.func26, Try.ntmps26
      go_upto_region 1 with fail
      rw [HW.out]
      go_wp2_with fail
      refine (HP.out w1 B1.out).mono ?_
      rintro e w2 ⟨rfl, hb2⟩
      have N0 := Lib.hid ((hb2.block _ (block_lt M0.out)).trans M0.out)
      have N1 := Lib.hid ((hb2.block _ (block_lt M1.out)).trans M1.out)
      have B2 : Hid (Below w.heap.size w w2) := Lib.hid (B1.out.trans (hb2.mono (by rw [HZ.out]; omega)))
      have y0 : w2.cell? ⟨w.heap.size, 0, none⟩ = some (.slice (some ⟨g1, 0, none⟩) s.ms.length c1) := cell_of_block N0.out 0
      have R2 := Lib.hid (range_old HR.out B2.out HGL.out)
      have y1 : w2.cell? ⟨g1, i * 4 + 2, none⟩ = some (.int .u64 m.df) := R2.out 2 _ rfl
      clear hb2 x0 x1
      go_upto_region 6 with (refine wpList_load_mid rfl 75 (.tmp 26) rfl g1 (i * 4) rfl [.int .i64 m.who, .int .u64 m.q, .int .u64 m.df, .bool m.vis] _ R2.out Try.underlying75 rfl Y1.out ?_)
      obtain ⟨w5, hw5, hB5, M5, hz5⟩ := one_box w2 #[.int .i64 m.who, .int .u64 m.q, .int .u64 (m.df - n), .bool m.vis] 75
      rw [hw5]
      have B5 : Hid (Below w.heap.size w w5) := Lib.hid (B2.out.trans (hB5.mono B2.out.size))
      have P0 := (hB5.block _ (block_lt N0.out)).trans N0.out
      have P1 := Lib.hid ((hB5.block _ (block_lt N1.out)).trans N1.out)
      have z0 : w5.cell? ⟨w.heap.size, 0, none⟩ = some (.slice (some ⟨g1, 0, none⟩) s.ms.length c1) := cell_of_block P0 0
      have z1 : w5.cell? ⟨w.heap.size, 1, none⟩ = some (.slice A2 s.act.length c2) := cell_of_block P0 1
      have q0 : w5.cell? ⟨w2.heap.size, 0, none⟩ = some (.int .i64 m.who) := cell_of_block M5 0
      have q1 : w5.cell? ⟨w2.heap.size, 1, none⟩ = some (.int .u64 m.q) := cell_of_block M5 1
      have q2 : w5.cell? ⟨w2.heap.size, 2, none⟩ = some (.int .u64 (m.df - n)) := cell_of_block M5 2
      have q3 : w5.cell? ⟨w2.heap.size, 3, none⟩ = some (.bool m.vis) := cell_of_block M5 3
      clear hB5 M5 hz5 P0 hw5 y0 y1
      go_wp2_with fail
      refine (CH.out w5 B5.out).mono ?_
      rintro e w6 ⟨A6, C6, rfl, ho6, hb6⟩
      have B6 : Below w.heap.size w w6 := B5.out.trans (hb6.mono B5.out.size)
      have Q1 := (hb6.block _ (block_lt P1.out)).trans P1.out
      have y2 : w6.cell? ⟨w.heap.size + 1, 0, none⟩ = some (.slice none 0 0) := cell_of_block Q1 0
      have y3 : w6.cell? ⟨w.heap.size + 1, 1, none⟩ = some (.slice none 0 0) := cell_of_block Q1 1
      have f2 := free_of_block Q1 0
      have f3 := free_of_block Q1 1
      have FIN := Lib.hid (fin_core (w := w) (w3 := w6) (b := w.heap.size + 1) (s' := ⟨upd s.ms ⟨m.who, m.q, m.df - n, m.vis⟩, s.act⟩) (G := G) (A1 := A6) (A2 := A2) (c1 := C6) (c2 := c2) B6 Q1 (by omega) (own_base ho6 (Nat.zero_le _))
        (own_same HH.out.r2 fun k hk => B6.block k (HH.out.r2.lt k hk).2)
        (fun k hk => hk.elim (fun hk => .inr (by have h1 := (ho6.lt k hk).1; have := B5.out.size; omega)) (fun hk => .inl (HG.out k (.inr hk)))))
      simp only [upd_length] at FIN
      clear ho6 hb6 B6 Q1 z0 z1 q0 q1 q2 q3
      go_wp2_with fail
      exact bodyPost_ret (v := .tuple #[.agg #[.slice A6 s.ms.length C6, .slice A2 s.act.length c2], .bool true]) (by simp [results, Try.results26, go_sem, y2, y3]) rfl ⟨_, by rw [E.out.2], by rw [E.out.1]; exact FIN.out.1, FIN.out.2⟩
    · have E : Hid (s.spend n = s ∧ s.spendB n = false) := Lib.hid (by unfold Sc.spend Sc.spendB; rw [hf]; exact ⟨if_neg hle, decide_eq_false hle⟩)
      have hgt : decide (m.df < n) = true := decide_eq_true (by omega)
      clear hf hvi hmi hil hr1 hgl1 hok
      go_enter Try.func26, Try.ntmps26
      go_upto_region 1 with fail
      rw [HW.out]
      go_wp2_with fail
      refine (HP.out w1 B1.out).mono ?_
      rintro e w2 ⟨rfl, hb2⟩
      have N0 := (hb2.block _ (block_lt M0.out)).trans M0.out
      have N1 := (hb2.block _ (block_lt M1.out)).trans M1.out
      have B2 : Hid (Below w.heap.size w w2) := Lib.hid (B1.out.trans (hb2.mono (by rw [HZ.out]; omega)))
      have y0 : w2.cell? ⟨w.heap.size, 0, none⟩ = some (.slice (some ⟨g1, 0, none⟩) s.ms.length c1) := cell_of_block N0 0
      have y1 : w2.cell? ⟨w.heap.size, 1, none⟩ = some (.slice A2 s.act.length c2) := cell_of_block N0 1
      have y2 : w2.cell? ⟨w.heap.size + 1, 0, none⟩ = some (.slice none 0 0) := cell_of_block N1 0
      have y3 : w2.cell? ⟨w.heap.size + 1, 1, none⟩ = some (.slice none 0 0) := cell_of_block N1 1
      have y4 : w2.cell? ⟨g1, i * 4 + 2, none⟩ = some (.int .u64 m.df) := (range_old HR.out B2.out HGL.out) 2 _ rfl
      have f2 := free_of_block N1 0
      have f3 := free_of_block N1 1
      have FIN := Lib.hid (HF.out w2 B2.out N1)
      clear hb2 N0 N1 x0 x1
      go_wp2_with fail
      exact bodyPost_ret (v := .tuple #[.agg #[.slice (some ⟨g1, 0, none⟩) s.ms.length c1, .slice A2 s.act.length c2], .bool false]) (by simp [results, Try.results26, go_sem, y0, y1, y2, y3]) rfl ⟨_, by rw [E.out.2], by rw [E.out.1]; exact FIN.out.1, FIN.out.2⟩
end Go.Proofs.Ytliepgmjpbjhfaa.Drr
