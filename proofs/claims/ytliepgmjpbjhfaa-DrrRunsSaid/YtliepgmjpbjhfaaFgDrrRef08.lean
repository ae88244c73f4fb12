/- The document's scheduler: Leave. Conditions: none beyond each lemma's own hypotheses. Printed by drrref08.py. -/
import Derived.Test.YtliepgmjpbjhfaaFgDrrRef06
set_option linter.unusedVariables false
set_option linter.unusedSimpArgs false
namespace Go.Proofs.Ytliepgmjpbjhfaa.Drr
open Go.RowKit Go.Proofs.Ytliepgmjpbjhfaa.Fg Go.Shelf Go.Maps

theorem tail_src {w w' : World} {g c : Nat} {x : Int} {r : List Int} (h : w.ownsRow 0 3 1 (.slice (some ⟨g, 0, none⟩) (r.length + 1) c) (r.length + 1) (iv (x :: r))) (hb : Below w.heap.size w w') : Src w' (some ⟨g, 1, none⟩) r.length (c - 1) (iv r) := by
  obtain ⟨A', c', he, h1, h2, h3, h4⟩ := own_form h
  injection he with he _ hcc
  subst hcc
  obtain ⟨g', hg', hg⟩ := h4 _ he.symm
  injection hg' with hg'
  subst hg'
  refine ⟨(fun h => by cases h), by omega, by omega, fun ad had j u hu => ?_⟩
  injection had with had
  subst had
  rw [Addr.add_lit, hb.cell (p := ⟨g, 1 + j, none⟩) (h.lt g rfl).2]
  exact hg (1 + j) u (by rw [Nat.add_comm]; exact hu)
theorem nil_src {w' : World} {g : Nat} : Src w' (some ⟨g, 0, none⟩) 0 0 (iv []) := ⟨(fun h => by cases h), Nat.le_refl _, Nat.zero_le _, fun ad had j u hu => by simp [iv] at hu⟩
theorem iv_one (l : List Int) : ∀ u ∈ iv l, u.oneCell' = true := by intro u hu; obtain ⟨y, -, rfl⟩ := List.mem_map.1 hu; rfl
set_option maxRecDepth 100000 in
set_option maxHeartbeats 8000000 in
theorem refleaveTT_any {w : World} {v : Value} {s : Sc} {G : Nat → Prop} (h : IsR w v s G) (hs : s.ok) :
    Calls Try.prog 27 #[v, .bool true, .bool true] w (RfE w (s.leave true true) G (.bool s.leaveB)) := by
  obtain ⟨A1, c1, A2, c2, rfl, hr, hG⟩ := h
  have HH := Lib.hid hr
  have HG := Lib.hid hG
  have HS := Lib.hid hs
  have few := hs.few_act
  obtain ⟨w1, hw1, hB, h0, h1, hz⟩ := two_boxes w #[.slice A1 s.ms.length c1, .slice A2 s.act.length c2] #[.slice none 0 0, .slice none 0 0] 48 48
  have B1 := Lib.hid hB
  have HW := Lib.hid hw1
  have HZ := Lib.hid hz
  have M0 := Lib.hid h0
  have M1 := Lib.hid h1
  have x0 : w1.cell? ⟨w.heap.size, 0, none⟩ = some (.slice A1 s.ms.length c1) := cell_of_block h0 0
  have x1 : w1.cell? ⟨w.heap.size, 1, none⟩ = some (.slice A2 s.act.length c2) := cell_of_block h0 1
  have HP : Hid (∀ w', Below w.heap.size w w' → Calls Try.prog 39 #[.agg #[.slice A1 s.ms.length c1, .slice A2 s.act.length c2]] w' fun e w2 => e = .returned (.int .i64 (visI s)) ∧ Below w'.heap.size w' w2) := Lib.hid (fun w' hb =>
      visited_any ⟨own_same HH.out.r1 fun k hk => hb.block k (HH.out.r1.lt k hk).2, own_same HH.out.r2 fun k hk => hb.block k (HH.out.r2.lt k hk).2⟩ HS.out)
  cases hf : s.fv with
  | none =>
    have HF : Hid (∀ w3, Below w.heap.size w w3 → w3.heap[w.heap.size + 1]? = some (.cells #[.slice none 0 0, .slice none 0 0] 48 (0, 0)) → IsR ((w3.setCell ⟨w.heap.size + 1, 0, none⟩ (.slice A1 s.ms.length c1)).setCell ⟨w.heap.size + 1, 1, none⟩ (.slice A2 s.act.length c2)) (.agg #[.slice A1 s.ms.length c1, .slice A2 s.act.length c2]) s (fun k => G k ∨ w.heap.size ≤ k) ∧
        Below w.heap.size w ((w3.setCell ⟨w.heap.size + 1, 0, none⟩ (.slice A1 s.ms.length c1)).setCell ⟨w.heap.size + 1, 1, none⟩ (.slice A2 s.act.length c2))) := Lib.hid (fun w3 hb M =>
      fin_core hb M (by omega) (own_same HH.out.r1 fun k hk => hb.block k (HH.out.r1.lt k hk).2) (own_same HH.out.r2 fun k hk => hb.block k (HH.out.r2.lt k hk).2) (fun k hk => .inl (HG.out k hk)))
    have E : Hid (s.leave true true = s ∧ s.leaveB = false) := Lib.hid (by unfold Sc.leave Sc.leaveB; rw [hf]; exact ⟨rfl, rfl⟩)
    rw [show visI s = -1 by unfold visI; rw [hf]] at HP
    clear hf hw1 hB h0 h1 hz hr hG hs
    go_enter Try.func27, Try.ntmps27
    go_upto_region 1 with fail
    rw [HW.out]
    go_wp2_with fail
    refine (HP.out w1 B1.out).mono ?_
    rintro e w2 ⟨rfl, hb2⟩
    have N0 := (hb2.block _ (block_lt M0.out)).trans M0.out
    have N1 := (hb2.block _ (block_lt M1.out)).trans M1.out
    have y0 : w2.cell? ⟨w.heap.size, 0, none⟩ = some (.slice A1 s.ms.length c1) := cell_of_block N0 0
    have y1 : w2.cell? ⟨w.heap.size, 1, none⟩ = some (.slice A2 s.act.length c2) := cell_of_block N0 1
    have y2 : w2.cell? ⟨w.heap.size + 1, 0, none⟩ = some (.slice none 0 0) := cell_of_block N1 0
    have y3 : w2.cell? ⟨w.heap.size + 1, 1, none⟩ = some (.slice none 0 0) := cell_of_block N1 1
    have f2 := free_of_block N1 0
    have f3 := free_of_block N1 1
    have FIN := Lib.hid (HF.out w2 (B1.out.trans (hb2.mono (by rw [HZ.out]; omega))) N1)
    clear hb2 N0 N1 x0 x1
    go_wp2_with fail
    exact bodyPost_ret (v := .tuple #[.agg #[.slice A1 s.ms.length c1, .slice A2 s.act.length c2], .bool false]) (by simp [results, Try.results27, go_sem, y0, y1, y2, y3]) rfl ⟨_, by rw [E.out.2], by rw [E.out.1]; exact FIN.out.1, FIN.out.2⟩
  | some m =>
    obtain ⟨r, hact, -⟩ := head_some (fv_some hf).1
    obtain ⟨i, hvi, hmi, hil⟩ := visI_some hf
    obtain ⟨g1, rfl, hr1, hgl1⟩ := mrow_at HH.out.r1 hmi
    have r2 := HH.out.r2
    rw [hact] at r2
    obtain ⟨g2, rfl, hg2, hgl2, hcap⟩ := act_one r2
    have HR := Lib.hid hr1
    have HGL := Lib.hid hgl1
    have HSR : Hid (∀ w', Below w.heap.size w w' → Src w' (some ⟨g2, 1, none⟩) r.length (c2 - 1) (iv r)) := Lib.hid (fun w' hb => tail_src r2 hb)
    have GG1 : Hid (G g1 ∧ G g2) := Lib.hid ⟨hG g1 (.inl rfl), hG g2 (.inr rfl)⟩
    rw [hvi] at HP
    have hok := HS.out.each m (List.mem_of_getElem? hmi)
    have hd0 := hok.d0
    have hd1 := hok.d1
    have hic : (i : Int) < s.ms.length := by omega
    have hi0 : decide ((i : Int) < 0) = false := decide_eq_false (by omega)
    have Y1 : Hid ((Try.prog.info? 75).map (·.size) = some ([.int .i64 m.who, .int .u64 m.q, .int .u64 m.df, .bool m.vis] : List Value).length) := Lib.hid memSize
    have E : Hid (s.leave true true = ⟨upd s.ms ⟨m.who, m.q, m.df, false⟩, r ++ [m.who]⟩ ∧ s.leaveB = true) := Lib.hid (by unfold Sc.leave Sc.leaveB; rw [hf, hact]; exact ⟨by simp, rfl⟩)
    have CH := Lib.hid (fun w' hb => change_upd (A2 := some ⟨g2, 0, none⟩) (n2 := s.act.length) (c2 := c2) (own_same HH.out.r1 fun k hk => hb.block k (HH.out.r1.lt k hk).2) HS.out hmi m.q (m.df) false : ∀ w', Below w.heap.size w w' → _)
    have hal : s.act.length = r.length + 1 := by rw [hact]; rfl
    clear hw1 hB h0 h1 hz hr hG hs r2 hact
    rw [hal] at M0 HW x1 few
    simp only [hal] at HP CH
    rw [hal]
    have hcap2 : (r.length : Int) + 1 ≤ c2 := by omega
    have hcap3 : (1 : Int) ≤ c2 := by omega
    have hr0 : (1 : Int) ≤ (r.length : Int) + 1 := by omega
    clear hf hvi hmi hil hr1 hgl1 hok hg2 hgl2
    go_enter Try.func27, Try.ntmps27
    go_upto_region 1 with fail
    rw [HW.out]
    go_wp2_with fail
    refine (HP.out w1 B1.out).mono ?_
    rintro e w2 ⟨rfl, hb2⟩
    have N0 := Lib.hid ((hb2.block _ (block_lt M0.out)).trans M0.out)
    have N1 := Lib.hid ((hb2.block _ (block_lt M1.out)).trans M1.out)
    have B2 : Hid (Below w.heap.size w w2) := Lib.hid (B1.out.trans (hb2.mono (by rw [HZ.out]; omega)))
    have y0 : w2.cell? ⟨w.heap.size, 0, none⟩ = some (.slice (some ⟨g1, 0, none⟩) s.ms.length c1) := cell_of_block N0.out 0
    have y1 : w2.cell? ⟨w.heap.size, 1, none⟩ = some (.slice (some ⟨g2, 0, none⟩) (r.length + 1) c2) := cell_of_block N0.out 1
    have R2 := Lib.hid (range_old HR.out B2.out HGL.out)
    clear hb2 x0 x1
    go_upto_region 8 with (refine wpList_load_mid rfl 75 (.tmp 19) rfl g1 (i * 4) rfl [.int .i64 m.who, .int .u64 m.q, .int .u64 m.df, .bool m.vis] _ R2.out Try.underlying75 rfl Y1.out ?_)
    obtain ⟨w5, hw5, hB5, M5, hz5⟩ := one_box w2 #[.int .i64 m.who, .int .u64 m.q, .int .u64 (m.df), .bool false] 75
    rw [hw5]
    have B5 : Hid (Below w.heap.size w w5) := Lib.hid (B2.out.trans (hB5.mono B2.out.size))
    have P0 := Lib.hid ((hB5.block _ (block_lt N0.out)).trans N0.out)
    have P1 := Lib.hid ((hB5.block _ (block_lt N1.out)).trans N1.out)
    have P9 := Lib.hid M5
    have HZ2 : Hid (w.heap.size + 1 < w2.heap.size ∧ w5.heap.size = w2.heap.size + 1) := Lib.hid ⟨block_lt N1.out, hz5⟩
    have z0 : w5.cell? ⟨w.heap.size, 0, none⟩ = some (.slice (some ⟨g1, 0, none⟩) s.ms.length c1) := cell_of_block P0.out 0
    have z1 : w5.cell? ⟨w.heap.size, 1, none⟩ = some (.slice (some ⟨g2, 0, none⟩) (r.length + 1) c2) := cell_of_block P0.out 1
    have q0 : w5.cell? ⟨w2.heap.size, 0, none⟩ = some (.int .i64 m.who) := cell_of_block M5 0
    have q1 : w5.cell? ⟨w2.heap.size, 1, none⟩ = some (.int .u64 m.q) := cell_of_block M5 1
    have q2 : w5.cell? ⟨w2.heap.size, 2, none⟩ = some (.int .u64 (m.df)) := cell_of_block M5 2
    have q3 : w5.cell? ⟨w2.heap.size, 3, none⟩ = some (.bool false) := cell_of_block M5 3
    clear hB5 M5 hz5 hw5 y0 y1
    go_wp2_with fail
    refine (CH.out w5 B5.out).mono ?_
    rintro e w6 ⟨A6, C6, rfl, ho6, hb6⟩
    have B6 : Below w.heap.size w w6 := B5.out.trans (hb6.mono B5.out.size)
    have Q0 := (hb6.block _ (block_lt P0.out)).trans P0.out
    have Q1 := (hb6.block _ (block_lt P1.out)).trans P1.out
    have Q9 := (hb6.block _ (block_lt P9.out)).trans P9.out
    have z0 : w6.cell? ⟨w.heap.size, 0, none⟩ = some (.slice (some ⟨g1, 0, none⟩) s.ms.length c1) := cell_of_block Q0 0
    have z1 : w6.cell? ⟨w.heap.size, 1, none⟩ = some (.slice (some ⟨g2, 0, none⟩) (r.length + 1) c2) := cell_of_block Q0 1
    have f0 := free_of_block Q0 0
    have f1 := free_of_block Q0 1
    obtain ⟨w7, hw7⟩ : ∃ w7, (w6.setCell ⟨w.heap.size, 0, none⟩ (.slice A6 s.ms.length C6)).setCell ⟨w.heap.size, 1, none⟩ (.slice (some ⟨g2, 0, none⟩) (r.length + 1) c2) = w7 := ⟨_, rfl⟩
    have HW7 := Lib.hid hw7
    have B7 : Hid (Below w.heap.size w w7) := Lib.hid (by rw [← hw7]; exact (B6.setCell (p := ⟨w.heap.size, 0, none⟩) (Nat.le_refl _) _).setCell (p := ⟨w.heap.size, 1, none⟩) (Nat.le_refl _) _)
    have R0 : Hid (w7.heap[w.heap.size]? = some (.cells #[.slice A6 s.ms.length C6, .slice (some ⟨g2, 0, none⟩) (r.length + 1) c2] 48 (0, 0))) := Lib.hid (by rw [← hw7]; exact hset_at _ w.heap.size 1 _ (hset_at w6 w.heap.size 0 _ Q0))
    have R1 : Hid (w7.heap[w.heap.size + 1]? = some (.cells #[.slice none 0 0, .slice none 0 0] 48 (0, 0))) := Lib.hid (by rw [← hw7]; exact (hset_other _ _ _ (by show w.heap.size + 1 ≠ w.heap.size; omega)).trans ((hset_other _ _ _ (by show w.heap.size + 1 ≠ w.heap.size; omega)).trans Q1))
    have R9 : Hid (w7.heap[w2.heap.size]? = some (.cells #[.int .i64 m.who, .int .u64 m.q, .int .u64 (m.df), .bool false] 75 (0, 0))) := Lib.hid (by have := HZ2.out.1; rw [← hw7]; exact (hset_other _ _ _ (by show w2.heap.size ≠ w.heap.size; omega)).trans ((hset_other _ _ _ (by show w2.heap.size ≠ w.heap.size; omega)).trans Q9))
    have HO6 := Lib.hid ho6
    have O7 : Hid (w7.ownsRow w5.heap.size 75 4 (.slice A6 (upd s.ms ⟨m.who, m.q, m.df, false⟩).length C6) (upd s.ms ⟨m.who, m.q, m.df, false⟩).length ((upd s.ms ⟨m.who, m.q, m.df, false⟩).map mrow).flatten) := Lib.hid (by
      rw [← hw7]
      exact own_box (own_box ho6 Q0 (by decide) _ _) (hset_at w6 w.heap.size 0 _ Q0) (by decide) _ _)
    clear ho6 hb6 B6 Q0 Q1 Q9 hw7 q0 q1 q2 q3
    go_upto_region 9 with fail
    rw [HW7.out]
    clear HW7 z0 z1 f0 f1
    have HZ7 : Hid (w.heap.size + 1 < w7.heap.size ∧ w2.heap.size < w7.heap.size) := Lib.hid ⟨block_lt R1.out, block_lt R9.out⟩
    have x1 : (w7.alloc (.cells #[] 3)).cell? ⟨w.heap.size, 1, none⟩ = some (.slice (some ⟨g2, 0, none⟩) (r.length + 1) c2) := cell_of_block ((heap_alloc_old _ _ (block_lt R0.out)).trans R0.out) 1
    have HL : Hid ((iv r).length = r.length * 1) := Lib.hid (by simp [iv])
    have H1 := Lib.hid (iv_one r)
    have HB : Hid ((0 + r.length) * 8 ≤ 140737488355328) := Lib.hid (by omega)
    have HB2 : Hid ((r.length + 1) * 8 ≤ 140737488355328) := Lib.hid (by omega)
    have HO : Hid ((w7.alloc (.cells #[] 3)).ownsRow w7.heap.size 3 1 (.slice (some ⟨w7.heap.size, 0, none⟩) 0 0) 0 []) := Lib.hid (World.ownsRow_made w7 #[] 0 (Nat.le_refl _) (Nat.zero_le _) rfl)
    have HRS : Hid (c2 = 1 → Src (w7.alloc (.cells #[] 3)) (some ⟨g2, 0, none⟩) r.length 0 (iv r)) := Lib.hid (fun hc => by
      have : r = [] := List.eq_nil_of_length_eq_zero (by omega)
      subst this
      exact nil_src)
    have HRT := Lib.hid (HSR.out _ (B7.out.alloc B7.out.size (.cells #[] 3)))
    have hcN : (c2 : Int) - 1 = ((c2 - 1 : Nat) : Int) := by omega
    by_cases hc : c2 = 1
    · have HRU := Lib.hid (HRS.out hc)
      clear HRS HRT HSR
      go_upto_region 10 with (at_builtin; refine wpList_append_any rfl (.tmp 29) (.tmp 32) 38 rfl w7.heap.size 3 (.int .i64 0) 1 8 Try.underlying38 intInfo rfl (by decide) (by decide) (.slice (some ⟨w7.heap.size, 0, none⟩) 0 0) 0 [] rfl HO.out (some ⟨g2, 0, none⟩) r.length 0 (iv r) rfl HRU.out HL.out H1.out HB.out (by simp) ?_)
      intro v8 w8 ho8 hg8 _ _
      try simp only [Nat.zero_add, List.nil_append] at ho8
      obtain ⟨A8, c8, rfl, -⟩ := own_form ho8
      have B8 : Hid (Below w7.heap.size w7 w8) := Lib.hid (((Below.refl _ w7).alloc (Nat.le_refl _) (.cells #[] 3)).grown hg8 (by simp) (fun k hk => by injection hk with hk; have hk : w7.heap.size = k := hk; omega))
      have HO8 := Lib.hid ho8
      clear ho8 hg8
      have y9 : w8.cell? ⟨w2.heap.size, 0, none⟩ = some (.int .i64 m.who) := cell_of_block ((B8.out.block _ (block_lt R9.out)).trans R9.out) 0
      have HA : Hid ((w8.alloc (.cells #[.int .i64 m.who] 3)).ownsRow w7.heap.size 3 1 (.slice A8 r.length c8) r.length (iv r)) := Lib.hid (own_same HO8.out fun k hk => heap_alloc_old w8 _ (HO8.out.lt k hk).2)
      have SIN := Lib.hid (src_int w8 m.who)
      have HZ8 : Hid (w7.heap.size ≤ (w8.alloc (.cells #[.int .i64 m.who] 3)).heap.size) := Lib.hid (by have := B8.out.size; simp; omega)
      go_wp2_with (at_builtin; refine wpList_append_any rfl (.tmp 35) (.tmp 38) 38 rfl w7.heap.size 3 (.int .i64 0) 1 8 Try.underlying38 intInfo rfl (by decide) (by decide) (.slice A8 r.length c8) r.length _ rfl HA.out (some ⟨_, 0, none⟩) 1 1 [.int .i64 m.who] rfl SIN.out rfl (by simp [Value.oneCell']) HB2.out HZ8.out ?_)
      intro v9 w9 ho9 hg9 _ _
      obtain ⟨A9, c9, rfl, -⟩ := own_form ho9
      have B9 : Hid (Below w7.heap.size w7 w9) := Lib.hid ((B8.out.alloc B8.out.size (.cells #[.int .i64 m.who] 3)).grown hg9 HZ8.out (fun k hk => (HO8.out.lt k hk).1))
      have ho : w9.ownsRow w7.heap.size 3 1 (.slice A9 (r ++ [m.who]).length c9) (r ++ [m.who]).length (iv (r ++ [m.who])) := by simpa [iv] using ho9
      have N0 := (B9.out.block _ (block_lt R0.out)).trans R0.out
      have N1 := (B9.out.block _ (block_lt R1.out)).trans R1.out
      have y0 : w9.cell? ⟨w.heap.size, 0, none⟩ = some (.slice A6 s.ms.length C6) := cell_of_block N0 0
      have y1 : w9.cell? ⟨w.heap.size, 1, none⟩ = some (.slice (some ⟨g2, 0, none⟩) (r.length + 1) c2) := cell_of_block N0 1
      have y2 : w9.cell? ⟨w.heap.size + 1, 0, none⟩ = some (.slice none 0 0) := cell_of_block N1 0
      have y3 : w9.cell? ⟨w.heap.size + 1, 1, none⟩ = some (.slice none 0 0) := cell_of_block N1 1
      have f1 := free_of_block N0 1
      have f2 := free_of_block N1 0
      have f3 := free_of_block N1 1
      have BB : Below w.heap.size w w9 := B7.out.trans (B9.out.mono B7.out.size)
      have O9 : w9.ownsRow w5.heap.size 75 4 (.slice A6 (upd s.ms ⟨m.who, m.q, m.df, false⟩).length C6) (upd s.ms ⟨m.who, m.q, m.df, false⟩).length ((upd s.ms ⟨m.who, m.q, m.df, false⟩).map mrow).flatten := own_same O7.out fun k hk => B9.out.block k (O7.out.lt k hk).2
      have FIN := Lib.hid (fin_core (w := w) (w3 := w9.setCell ⟨w.heap.size, 1, none⟩ (.slice A9 (r.length + 1) c9)) (b := w.heap.size + 1) (s' := ⟨upd s.ms ⟨m.who, m.q, m.df, false⟩, r ++ [m.who]⟩) (G := G) (A1 := A6) (A2 := A9) (c1 := C6) (c2 := c9) (BB.setCell (p := ⟨w.heap.size, 1, none⟩) (Nat.le_refl _) _)
        ((hset_other _ _ _ (by show w.heap.size + 1 ≠ w.heap.size; omega)).trans N1) (by omega) (own_base (own_box O9 N0 (by decide) _ _) (Nat.zero_le _))
        (own_base (own_box ho N0 (by decide) 1 (.slice A9 (r.length + 1) c9)) (Nat.zero_le _))
        (fun k hk => hk.elim (fun hk => .inr (by have h1 := (O9.lt k hk).1; have := B5.out.size; omega)) (fun hk => .inr (by have h1 := (ho.lt k hk).1; have := HZ7.out.1; omega))))
      clear ho9 hg9 ho N0 N1 BB y9 O9 x1
      simp only [upd_length, List.length_append, List.length_cons, List.length_nil, Nat.zero_add] at FIN
      go_wp2_with fail
      exact bodyPost_ret (v := .tuple #[.agg #[.slice A6 s.ms.length C6, .slice A9 (r.length + 1) c9], .bool true]) (by simp [results, Try.results27, go_sem, y0, y1, y2, y3]) rfl ⟨_, by rw [E.out.2], by rw [E.out.1]; exact FIN.out.1, FIN.out.2⟩
    · clear HRS
      go_upto_region 10 with (at_builtin; refine wpList_append_any rfl (.tmp 29) (.tmp 32) 38 rfl w7.heap.size 3 (.int .i64 0) 1 8 Try.underlying38 intInfo rfl (by decide) (by decide) (.slice (some ⟨w7.heap.size, 0, none⟩) 0 0) 0 [] rfl HO.out (some ⟨g2, 1, none⟩) r.length (c2 - 1) (iv r) rfl HRT.out HL.out H1.out HB.out (by simp) ?_)
      intro v8 w8 ho8 hg8 _ _
      try simp only [Nat.zero_add, List.nil_append] at ho8
      obtain ⟨A8, c8, rfl, -⟩ := own_form ho8
      have B8 : Hid (Below w7.heap.size w7 w8) := Lib.hid (((Below.refl _ w7).alloc (Nat.le_refl _) (.cells #[] 3)).grown hg8 (by simp) (fun k hk => by injection hk with hk; have hk : w7.heap.size = k := hk; omega))
      have HO8 := Lib.hid ho8
      clear ho8 hg8
      have y9 : w8.cell? ⟨w2.heap.size, 0, none⟩ = some (.int .i64 m.who) := cell_of_block ((B8.out.block _ (block_lt R9.out)).trans R9.out) 0
      have HA : Hid ((w8.alloc (.cells #[.int .i64 m.who] 3)).ownsRow w7.heap.size 3 1 (.slice A8 r.length c8) r.length (iv r)) := Lib.hid (own_same HO8.out fun k hk => heap_alloc_old w8 _ (HO8.out.lt k hk).2)
      have SIN := Lib.hid (src_int w8 m.who)
      have HZ8 : Hid (w7.heap.size ≤ (w8.alloc (.cells #[.int .i64 m.who] 3)).heap.size) := Lib.hid (by have := B8.out.size; simp; omega)
      go_wp2_with (at_builtin; refine wpList_append_any rfl (.tmp 35) (.tmp 38) 38 rfl w7.heap.size 3 (.int .i64 0) 1 8 Try.underlying38 intInfo rfl (by decide) (by decide) (.slice A8 r.length c8) r.length _ rfl HA.out (some ⟨_, 0, none⟩) 1 1 [.int .i64 m.who] rfl SIN.out rfl (by simp [Value.oneCell']) HB2.out HZ8.out ?_)
      intro v9 w9 ho9 hg9 _ _
      obtain ⟨A9, c9, rfl, -⟩ := own_form ho9
      have B9 : Hid (Below w7.heap.size w7 w9) := Lib.hid ((B8.out.alloc B8.out.size (.cells #[.int .i64 m.who] 3)).grown hg9 HZ8.out (fun k hk => (HO8.out.lt k hk).1))
      have ho : w9.ownsRow w7.heap.size 3 1 (.slice A9 (r ++ [m.who]).length c9) (r ++ [m.who]).length (iv (r ++ [m.who])) := by simpa [iv] using ho9
      have N0 := (B9.out.block _ (block_lt R0.out)).trans R0.out
      have N1 := (B9.out.block _ (block_lt R1.out)).trans R1.out
      have y0 : w9.cell? ⟨w.heap.size, 0, none⟩ = some (.slice A6 s.ms.length C6) := cell_of_block N0 0
      have y1 : w9.cell? ⟨w.heap.size, 1, none⟩ = some (.slice (some ⟨g2, 0, none⟩) (r.length + 1) c2) := cell_of_block N0 1
      have y2 : w9.cell? ⟨w.heap.size + 1, 0, none⟩ = some (.slice none 0 0) := cell_of_block N1 0
      have y3 : w9.cell? ⟨w.heap.size + 1, 1, none⟩ = some (.slice none 0 0) := cell_of_block N1 1
      have f1 := free_of_block N0 1
      have f2 := free_of_block N1 0
      have f3 := free_of_block N1 1
      have BB : Below w.heap.size w w9 := B7.out.trans (B9.out.mono B7.out.size)
      have O9 : w9.ownsRow w5.heap.size 75 4 (.slice A6 (upd s.ms ⟨m.who, m.q, m.df, false⟩).length C6) (upd s.ms ⟨m.who, m.q, m.df, false⟩).length ((upd s.ms ⟨m.who, m.q, m.df, false⟩).map mrow).flatten := own_same O7.out fun k hk => B9.out.block k (O7.out.lt k hk).2
      have FIN := Lib.hid (fin_core (w := w) (w3 := w9.setCell ⟨w.heap.size, 1, none⟩ (.slice A9 (r.length + 1) c9)) (b := w.heap.size + 1) (s' := ⟨upd s.ms ⟨m.who, m.q, m.df, false⟩, r ++ [m.who]⟩) (G := G) (A1 := A6) (A2 := A9) (c1 := C6) (c2 := c9) (BB.setCell (p := ⟨w.heap.size, 1, none⟩) (Nat.le_refl _) _)
        ((hset_other _ _ _ (by show w.heap.size + 1 ≠ w.heap.size; omega)).trans N1) (by omega) (own_base (own_box O9 N0 (by decide) _ _) (Nat.zero_le _))
        (own_base (own_box ho N0 (by decide) 1 (.slice A9 (r.length + 1) c9)) (Nat.zero_le _))
        (fun k hk => hk.elim (fun hk => .inr (by have h1 := (O9.lt k hk).1; have := B5.out.size; omega)) (fun hk => .inr (by have h1 := (ho.lt k hk).1; have := HZ7.out.1; omega))))
      clear ho9 hg9 ho N0 N1 BB y9 O9 x1
      simp only [upd_length, List.length_append, List.length_cons, List.length_nil, Nat.zero_add] at FIN
      go_wp2_with fail
      exact bodyPost_ret (v := .tuple #[.agg #[.slice A6 s.ms.length C6, .slice A9 (r.length + 1) c9], .bool true]) (by simp [results, Try.results27, go_sem, y0, y1, y2, y3]) rfl ⟨_, by rw [E.out.2], by rw [E.out.1]; exact FIN.out.1, FIN.out.2⟩
set_option maxRecDepth 100000 in
set_option maxHeartbeats 8000000 in
theorem refleaveFT_any {w : World} {v : Value} {s : Sc} {G : Nat → Prop} (h : IsR w v s G) (hs : s.ok) :
    Calls Try.prog 27 #[v, .bool false, .bool true] w (RfE w (s.leave false true) G (.bool s.leaveB)) := by
  obtain ⟨A1, c1, A2, c2, rfl, hr, hG⟩ := h
  have HH := Lib.hid hr
  have HG := Lib.hid hG
  have HS := Lib.hid hs
  have few := hs.few_act
  obtain ⟨w1, hw1, hB, h0, h1, hz⟩ := two_boxes w #[.slice A1 s.ms.length c1, .slice A2 s.act.length c2] #[.slice none 0 0, .slice none 0 0] 48 48
  have B1 := Lib.hid hB
  have HW := Lib.hid hw1
  have HZ := Lib.hid hz
  have M0 := Lib.hid h0
  have M1 := Lib.hid h1
  have x0 : w1.cell? ⟨w.heap.size, 0, none⟩ = some (.slice A1 s.ms.length c1) := cell_of_block h0 0
  have x1 : w1.cell? ⟨w.heap.size, 1, none⟩ = some (.slice A2 s.act.length c2) := cell_of_block h0 1
  have HP : Hid (∀ w', Below w.heap.size w w' → Calls Try.prog 39 #[.agg #[.slice A1 s.ms.length c1, .slice A2 s.act.length c2]] w' fun e w2 => e = .returned (.int .i64 (visI s)) ∧ Below w'.heap.size w' w2) := Lib.hid (fun w' hb =>
      visited_any ⟨own_same HH.out.r1 fun k hk => hb.block k (HH.out.r1.lt k hk).2, own_same HH.out.r2 fun k hk => hb.block k (HH.out.r2.lt k hk).2⟩ HS.out)
  cases hf : s.fv with
  | none =>
    have HF : Hid (∀ w3, Below w.heap.size w w3 → w3.heap[w.heap.size + 1]? = some (.cells #[.slice none 0 0, .slice none 0 0] 48 (0, 0)) → IsR ((w3.setCell ⟨w.heap.size + 1, 0, none⟩ (.slice A1 s.ms.length c1)).setCell ⟨w.heap.size + 1, 1, none⟩ (.slice A2 s.act.length c2)) (.agg #[.slice A1 s.ms.length c1, .slice A2 s.act.length c2]) s (fun k => G k ∨ w.heap.size ≤ k) ∧
        Below w.heap.size w ((w3.setCell ⟨w.heap.size + 1, 0, none⟩ (.slice A1 s.ms.length c1)).setCell ⟨w.heap.size + 1, 1, none⟩ (.slice A2 s.act.length c2))) := Lib.hid (fun w3 hb M =>
      fin_core hb M (by omega) (own_same HH.out.r1 fun k hk => hb.block k (HH.out.r1.lt k hk).2) (own_same HH.out.r2 fun k hk => hb.block k (HH.out.r2.lt k hk).2) (fun k hk => .inl (HG.out k hk)))
    have E : Hid (s.leave false true = s ∧ s.leaveB = false) := Lib.hid (by unfold Sc.leave Sc.leaveB; rw [hf]; exact ⟨rfl, rfl⟩)
    rw [show visI s = -1 by unfold visI; rw [hf]] at HP
    clear hf hw1 hB h0 h1 hz hr hG hs
    go_enter Try.func27, Try.ntmps27
    go_upto_region 1 with fail
    rw [HW.out]
    go_wp2_with fail
    refine (HP.out w1 B1.out).mono ?_
    rintro e w2 ⟨rfl, hb2⟩
    have N0 := (hb2.block _ (block_lt M0.out)).trans M0.out
    have N1 := (hb2.block _ (block_lt M1.out)).trans M1.out
    have y0 : w2.cell? ⟨w.heap.size, 0, none⟩ = some (.slice A1 s.ms.length c1) := cell_of_block N0 0
    have y1 : w2.cell? ⟨w.heap.size, 1, none⟩ = some (.slice A2 s.act.length c2) := cell_of_block N0 1
    have y2 : w2.cell? ⟨w.heap.size + 1, 0, none⟩ = some (.slice none 0 0) := cell_of_block N1 0
    have y3 : w2.cell? ⟨w.heap.size + 1, 1, none⟩ = some (.slice none 0 0) := cell_of_block N1 1
    have f2 := free_of_block N1 0
    have f3 := free_of_block N1 1
    have FIN := Lib.hid (HF.out w2 (B1.out.trans (hb2.mono (by rw [HZ.out]; omega))) N1)
    clear hb2 N0 N1 x0 x1
    go_wp2_with fail
    exact bodyPost_ret (v := .tuple #[.agg #[.slice A1 s.ms.length c1, .slice A2 s.act.length c2], .bool false]) (by simp [results, Try.results27, go_sem, y0, y1, y2, y3]) rfl ⟨_, by rw [E.out.2], by rw [E.out.1]; exact FIN.out.1, FIN.out.2⟩
  | some m =>
    obtain ⟨r, hact, -⟩ := head_some (fv_some hf).1
    obtain ⟨i, hvi, hmi, hil⟩ := visI_some hf
    obtain ⟨g1, rfl, hr1, hgl1⟩ := mrow_at HH.out.r1 hmi
    have r2 := HH.out.r2
    rw [hact] at r2
    obtain ⟨g2, rfl, hg2, hgl2, hcap⟩ := act_one r2
    have HR := Lib.hid hr1
    have HGL := Lib.hid hgl1
    have HSR : Hid (∀ w', Below w.heap.size w w' → Src w' (some ⟨g2, 1, none⟩) r.length (c2 - 1) (iv r)) := Lib.hid (fun w' hb => tail_src r2 hb)
    have GG1 : Hid (G g1 ∧ G g2) := Lib.hid ⟨hG g1 (.inl rfl), hG g2 (.inr rfl)⟩
    rw [hvi] at HP
    have hok := HS.out.each m (List.mem_of_getElem? hmi)
    have hd0 := hok.d0
    have hd1 := hok.d1
    have hic : (i : Int) < s.ms.length := by omega
    have hi0 : decide ((i : Int) < 0) = false := decide_eq_false (by omega)
    have Y1 : Hid ((Try.prog.info? 75).map (·.size) = some ([.int .i64 m.who, .int .u64 m.q, .int .u64 m.df, .bool m.vis] : List Value).length) := Lib.hid memSize
    have E : Hid (s.leave false true = ⟨upd s.ms ⟨m.who, m.q, 0, false⟩, r ++ [m.who]⟩ ∧ s.leaveB = true) := Lib.hid (by unfold Sc.leave Sc.leaveB; rw [hf, hact]; exact ⟨by simp, rfl⟩)
    have CH := Lib.hid (fun w' hb => change_upd (A2 := some ⟨g2, 0, none⟩) (n2 := s.act.length) (c2 := c2) (own_same HH.out.r1 fun k hk => hb.block k (HH.out.r1.lt k hk).2) HS.out hmi m.q (0) false : ∀ w', Below w.heap.size w w' → _)
    have hal : s.act.length = r.length + 1 := by rw [hact]; rfl
    clear hw1 hB h0 h1 hz hr hG hs r2 hact
    rw [hal] at M0 HW x1 few
    simp only [hal] at HP CH
    rw [hal]
    have hcap2 : (r.length : Int) + 1 ≤ c2 := by omega
    have hcap3 : (1 : Int) ≤ c2 := by omega
    have hr0 : (1 : Int) ≤ (r.length : Int) + 1 := by omega
    clear hf hvi hmi hil hr1 hgl1 hok hg2 hgl2
    go_enter Try.func27, Try.ntmps27
    go_upto_region 1 with fail
    rw [HW.out]
    go_wp2_with fail
    refine (HP.out w1 B1.out).mono ?_
    rintro e w2 ⟨rfl, hb2⟩
    have N0 := Lib.hid ((hb2.block _ (block_lt M0.out)).trans M0.out)
    have N1 := Lib.hid ((hb2.block _ (block_lt M1.out)).trans M1.out)
    have B2 : Hid (Below w.heap.size w w2) := Lib.hid (B1.out.trans (hb2.mono (by rw [HZ.out]; omega)))
    have y0 : w2.cell? ⟨w.heap.size, 0, none⟩ = some (.slice (some ⟨g1, 0, none⟩) s.ms.length c1) := cell_of_block N0.out 0
    have y1 : w2.cell? ⟨w.heap.size, 1, none⟩ = some (.slice (some ⟨g2, 0, none⟩) (r.length + 1) c2) := cell_of_block N0.out 1
    have R2 := Lib.hid (range_old HR.out B2.out HGL.out)
    clear hb2 x0 x1
    go_upto_region 8 with (refine wpList_load_mid rfl 75 (.tmp 19) rfl g1 (i * 4) rfl [.int .i64 m.who, .int .u64 m.q, .int .u64 m.df, .bool m.vis] _ R2.out Try.underlying75 rfl Y1.out ?_)
    obtain ⟨w5, hw5, hB5, M5, hz5⟩ := one_box w2 #[.int .i64 m.who, .int .u64 m.q, .int .u64 (0), .bool false] 75
    rw [hw5]
    have B5 : Hid (Below w.heap.size w w5) := Lib.hid (B2.out.trans (hB5.mono B2.out.size))
    have P0 := Lib.hid ((hB5.block _ (block_lt N0.out)).trans N0.out)
    have P1 := Lib.hid ((hB5.block _ (block_lt N1.out)).trans N1.out)
    have P9 := Lib.hid M5
    have HZ2 : Hid (w.heap.size + 1 < w2.heap.size ∧ w5.heap.size = w2.heap.size + 1) := Lib.hid ⟨block_lt N1.out, hz5⟩
    have z0 : w5.cell? ⟨w.heap.size, 0, none⟩ = some (.slice (some ⟨g1, 0, none⟩) s.ms.length c1) := cell_of_block P0.out 0
    have z1 : w5.cell? ⟨w.heap.size, 1, none⟩ = some (.slice (some ⟨g2, 0, none⟩) (r.length + 1) c2) := cell_of_block P0.out 1
    have q0 : w5.cell? ⟨w2.heap.size, 0, none⟩ = some (.int .i64 m.who) := cell_of_block M5 0
    have q1 : w5.cell? ⟨w2.heap.size, 1, none⟩ = some (.int .u64 m.q) := cell_of_block M5 1
    have q2 : w5.cell? ⟨w2.heap.size, 2, none⟩ = some (.int .u64 (0)) := cell_of_block M5 2
    have q3 : w5.cell? ⟨w2.heap.size, 3, none⟩ = some (.bool false) := cell_of_block M5 3
    clear hB5 M5 hz5 hw5 y0 y1
    go_wp2_with fail
    refine (CH.out w5 B5.out).mono ?_
    rintro e w6 ⟨A6, C6, rfl, ho6, hb6⟩
    have B6 : Below w.heap.size w w6 := B5.out.trans (hb6.mono B5.out.size)
    have Q0 := (hb6.block _ (block_lt P0.out)).trans P0.out
    have Q1 := (hb6.block _ (block_lt P1.out)).trans P1.out
    have Q9 := (hb6.block _ (block_lt P9.out)).trans P9.out
    have z0 : w6.cell? ⟨w.heap.size, 0, none⟩ = some (.slice (some ⟨g1, 0, none⟩) s.ms.length c1) := cell_of_block Q0 0
    have z1 : w6.cell? ⟨w.heap.size, 1, none⟩ = some (.slice (some ⟨g2, 0, none⟩) (r.length + 1) c2) := cell_of_block Q0 1
    have f0 := free_of_block Q0 0
    have f1 := free_of_block Q0 1
    obtain ⟨w7, hw7⟩ : ∃ w7, (w6.setCell ⟨w.heap.size, 0, none⟩ (.slice A6 s.ms.length C6)).setCell ⟨w.heap.size, 1, none⟩ (.slice (some ⟨g2, 0, none⟩) (r.length + 1) c2) = w7 := ⟨_, rfl⟩
    have HW7 := Lib.hid hw7
    have B7 : Hid (Below w.heap.size w w7) := Lib.hid (by rw [← hw7]; exact (B6.setCell (p := ⟨w.heap.size, 0, none⟩) (Nat.le_refl _) _).setCell (p := ⟨w.heap.size, 1, none⟩) (Nat.le_refl _) _)
    have R0 : Hid (w7.heap[w.heap.size]? = some (.cells #[.slice A6 s.ms.length C6, .slice (some ⟨g2, 0, none⟩) (r.length + 1) c2] 48 (0, 0))) := Lib.hid (by rw [← hw7]; exact hset_at _ w.heap.size 1 _ (hset_at w6 w.heap.size 0 _ Q0))
    have R1 : Hid (w7.heap[w.heap.size + 1]? = some (.cells #[.slice none 0 0, .slice none 0 0] 48 (0, 0))) := Lib.hid (by rw [← hw7]; exact (hset_other _ _ _ (by show w.heap.size + 1 ≠ w.heap.size; omega)).trans ((hset_other _ _ _ (by show w.heap.size + 1 ≠ w.heap.size; omega)).trans Q1))
    have R9 : Hid (w7.heap[w2.heap.size]? = some (.cells #[.int .i64 m.who, .int .u64 m.q, .int .u64 (0), .bool false] 75 (0, 0))) := Lib.hid (by have := HZ2.out.1; rw [← hw7]; exact (hset_other _ _ _ (by show w2.heap.size ≠ w.heap.size; omega)).trans ((hset_other _ _ _ (by show w2.heap.size ≠ w.heap.size; omega)).trans Q9))
    have HO6 := Lib.hid ho6
    have O7 : Hid (w7.ownsRow w5.heap.size 75 4 (.slice A6 (upd s.ms ⟨m.who, m.q, 0, false⟩).length C6) (upd s.ms ⟨m.who, m.q, 0, false⟩).length ((upd s.ms ⟨m.who, m.q, 0, false⟩).map mrow).flatten) := Lib.hid (by
      rw [← hw7]
      exact own_box (own_box ho6 Q0 (by decide) _ _) (hset_at w6 w.heap.size 0 _ Q0) (by decide) _ _)
    clear ho6 hb6 B6 Q0 Q1 Q9 hw7 q0 q1 q2 q3
    go_upto_region 9 with fail
    rw [HW7.out]
    clear HW7 z0 z1 f0 f1
    have HZ7 : Hid (w.heap.size + 1 < w7.heap.size ∧ w2.heap.size < w7.heap.size) := Lib.hid ⟨block_lt R1.out, block_lt R9.out⟩
    have x1 : (w7.alloc (.cells #[] 3)).cell? ⟨w.heap.size, 1, none⟩ = some (.slice (some ⟨g2, 0, none⟩) (r.length + 1) c2) := cell_of_block ((heap_alloc_old _ _ (block_lt R0.out)).trans R0.out) 1
    have HL : Hid ((iv r).length = r.length * 1) := Lib.hid (by simp [iv])
    have H1 := Lib.hid (iv_one r)
    have HB : Hid ((0 + r.length) * 8 ≤ 140737488355328) := Lib.hid (by omega)
    have HB2 : Hid ((r.length + 1) * 8 ≤ 140737488355328) := Lib.hid (by omega)
    have HO : Hid ((w7.alloc (.cells #[] 3)).ownsRow w7.heap.size 3 1 (.slice (some ⟨w7.heap.size, 0, none⟩) 0 0) 0 []) := Lib.hid (World.ownsRow_made w7 #[] 0 (Nat.le_refl _) (Nat.zero_le _) rfl)
    have HRS : Hid (c2 = 1 → Src (w7.alloc (.cells #[] 3)) (some ⟨g2, 0, none⟩) r.length 0 (iv r)) := Lib.hid (fun hc => by
      have : r = [] := List.eq_nil_of_length_eq_zero (by omega)
      subst this
      exact nil_src)
    have HRT := Lib.hid (HSR.out _ (B7.out.alloc B7.out.size (.cells #[] 3)))
    have hcN : (c2 : Int) - 1 = ((c2 - 1 : Nat) : Int) := by omega
    by_cases hc : c2 = 1
    · have HRU := Lib.hid (HRS.out hc)
      clear HRS HRT HSR
      go_upto_region 10 with (at_builtin; refine wpList_append_any rfl (.tmp 29) (.tmp 32) 38 rfl w7.heap.size 3 (.int .i64 0) 1 8 Try.underlying38 intInfo rfl (by decide) (by decide) (.slice (some ⟨w7.heap.size, 0, none⟩) 0 0) 0 [] rfl HO.out (some ⟨g2, 0, none⟩) r.length 0 (iv r) rfl HRU.out HL.out H1.out HB.out (by simp) ?_)
      intro v8 w8 ho8 hg8 _ _
      try simp only [Nat.zero_add, List.nil_append] at ho8
      obtain ⟨A8, c8, rfl, -⟩ := own_form ho8
      have B8 : Hid (Below w7.heap.size w7 w8) := Lib.hid (((Below.refl _ w7).alloc (Nat.le_refl _) (.cells #[] 3)).grown hg8 (by simp) (fun k hk => by injection hk with hk; have hk : w7.heap.size = k := hk; omega))
      have HO8 := Lib.hid ho8
      clear ho8 hg8
      have y9 : w8.cell? ⟨w2.heap.size, 0, none⟩ = some (.int .i64 m.who) := cell_of_block ((B8.out.block _ (block_lt R9.out)).trans R9.out) 0
      have HA : Hid ((w8.alloc (.cells #[.int .i64 m.who] 3)).ownsRow w7.heap.size 3 1 (.slice A8 r.length c8) r.length (iv r)) := Lib.hid (own_same HO8.out fun k hk => heap_alloc_old w8 _ (HO8.out.lt k hk).2)
      have SIN := Lib.hid (src_int w8 m.who)
      have HZ8 : Hid (w7.heap.size ≤ (w8.alloc (.cells #[.int .i64 m.who] 3)).heap.size) := Lib.hid (by have := B8.out.size; simp; omega)
      go_wp2_with (at_builtin; refine wpList_append_any rfl (.tmp 35) (.tmp 38) 38 rfl w7.heap.size 3 (.int .i64 0) 1 8 Try.underlying38 intInfo rfl (by decide) (by decide) (.slice A8 r.length c8) r.length _ rfl HA.out (some ⟨_, 0, none⟩) 1 1 [.int .i64 m.who] rfl SIN.out rfl (by simp [Value.oneCell']) HB2.out HZ8.out ?_)
      intro v9 w9 ho9 hg9 _ _
      obtain ⟨A9, c9, rfl, -⟩ := own_form ho9
      have B9 : Hid (Below w7.heap.size w7 w9) := Lib.hid ((B8.out.alloc B8.out.size (.cells #[.int .i64 m.who] 3)).grown hg9 HZ8.out (fun k hk => (HO8.out.lt k hk).1))
      have ho : w9.ownsRow w7.heap.size 3 1 (.slice A9 (r ++ [m.who]).length c9) (r ++ [m.who]).length (iv (r ++ [m.who])) := by simpa [iv] using ho9
      have N0 := (B9.out.block _ (block_lt R0.out)).trans R0.out
      have N1 := (B9.out.block _ (block_lt R1.out)).trans R1.out
      have y0 : w9.cell? ⟨w.heap.size, 0, none⟩ = some (.slice A6 s.ms.length C6) := cell_of_block N0 0
      have y1 : w9.cell? ⟨w.heap.size, 1, none⟩ = some (.slice (some ⟨g2, 0, none⟩) (r.length + 1) c2) := cell_of_block N0 1
      have y2 : w9.cell? ⟨w.heap.size + 1, 0, none⟩ = some (.slice none 0 0) := cell_of_block N1 0
      have y3 : w9.cell? ⟨w.heap.size + 1, 1, none⟩ = some (.slice none 0 0) := cell_of_block N1 1
      have f1 := free_of_block N0 1
      have f2 := free_of_block N1 0
      have f3 := free_of_block N1 1
      have BB : Below w.heap.size w w9 := B7.out.trans (B9.out.mono B7.out.size)
      have O9 : w9.ownsRow w5.heap.size 75 4 (.slice A6 (upd s.ms ⟨m.who, m.q, 0, false⟩).length C6) (upd s.ms ⟨m.who, m.q, 0, false⟩).length ((upd s.ms ⟨m.who, m.q, 0, false⟩).map mrow).flatten := own_same O7.out fun k hk => B9.out.block k (O7.out.lt k hk).2
      have FIN := Lib.hid (fin_core (w := w) (w3 := w9.setCell ⟨w.heap.size, 1, none⟩ (.slice A9 (r.length + 1) c9)) (b := w.heap.size + 1) (s' := ⟨upd s.ms ⟨m.who, m.q, 0, false⟩, r ++ [m.who]⟩) (G := G) (A1 := A6) (A2 := A9) (c1 := C6) (c2 := c9) (BB.setCell (p := ⟨w.heap.size, 1, none⟩) (Nat.le_refl _) _)
        ((hset_other _ _ _ (by show w.heap.size + 1 ≠ w.heap.size; omega)).trans N1) (by omega) (own_base (own_box O9 N0 (by decide) _ _) (Nat.zero_le _))
        (own_base (own_box ho N0 (by decide) 1 (.slice A9 (r.length + 1) c9)) (Nat.zero_le _))
        (fun k hk => hk.elim (fun hk => .inr (by have h1 := (O9.lt k hk).1; have := B5.out.size; omega)) (fun hk => .inr (by have h1 := (ho.lt k hk).1; have := HZ7.out.1; omega))))
      clear ho9 hg9 ho N0 N1 BB y9 O9 x1
      simp only [upd_length, List.length_append, List.length_cons, List.length_nil, Nat.zero_add] at FIN
      go_wp2_with fail
      exact bodyPost_ret (v := .tuple #[.agg #[.slice A6 s.ms.length C6, .slice A9 (r.length + 1) c9], .bool true]) (by simp [results, Try.results27, go_sem, y0, y1, y2, y3]) rfl ⟨_, by rw [E.out.2], by rw [E.out.1]; exact FIN.out.1, FIN.out.2⟩
    · clear HRS
      go_upto_region 10 with (at_builtin; refine wpList_append_any rfl (.tmp 29) (.tmp 32) 38 rfl w7.heap.size 3 (.int .i64 0) 1 8 Try.underlying38 intInfo rfl (by decide) (by decide) (.slice (some ⟨w7.heap.size, 0, none⟩) 0 0) 0 [] rfl HO.out (some ⟨g2, 1, none⟩) r.length (c2 - 1) (iv r) rfl HRT.out HL.out H1.out HB.out (by simp) ?_)
      intro v8 w8 ho8 hg8 _ _
      try simp only [Nat.zero_add, List.nil_append] at ho8
      obtain ⟨A8, c8, rfl, -⟩ := own_form ho8
      have B8 : Hid (Below w7.heap.size w7 w8) := Lib.hid (((Below.refl _ w7).alloc (Nat.le_refl _) (.cells #[] 3)).grown hg8 (by simp) (fun k hk => by injection hk with hk; have hk : w7.heap.size = k := hk; omega))
      have HO8 := Lib.hid ho8
      clear ho8 hg8
      have y9 : w8.cell? ⟨w2.heap.size, 0, none⟩ = some (.int .i64 m.who) := cell_of_block ((B8.out.block _ (block_lt R9.out)).trans R9.out) 0
      have HA : Hid ((w8.alloc (.cells #[.int .i64 m.who] 3)).ownsRow w7.heap.size 3 1 (.slice A8 r.length c8) r.length (iv r)) := Lib.hid (own_same HO8.out fun k hk => heap_alloc_old w8 _ (HO8.out.lt k hk).2)
      have SIN := Lib.hid (src_int w8 m.who)
      have HZ8 : Hid (w7.heap.size ≤ (w8.alloc (.cells #[.int .i64 m.who] 3)).heap.size) := Lib.hid (by have := B8.out.size; simp; omega)
      go_wp2_with (at_builtin; refine wpList_append_any rfl (.tmp 35) (.tmp 38) 38 rfl w7.heap.size 3 (.int .i64 0) 1 8 Try.underlying38 intInfo rfl (by decide) (by decide) (.slice A8 r.length c8) r.length _ rfl HA.out (some ⟨_, 0, none⟩) 1 1 [.int .i64 m.who] rfl SIN.out rfl (by simp [Value.oneCell']) HB2.out HZ8.out ?_)
      intro v9 w9 ho9 hg9 _ _
      obtain ⟨A9, c9, rfl, -⟩ := own_form ho9
      have B9 : Hid (Below w7.heap.size w7 w9) := Lib.hid ((B8.out.alloc B8.out.size (.cells #[.int .i64 m.who] 3)).grown hg9 HZ8.out (fun k hk => (HO8.out.lt k hk).1))
      have ho : w9.ownsRow w7.heap.size 3 1 (.slice A9 (r ++ [m.who]).length c9) (r ++ [m.who]).length (iv (r ++ [m.who])) := by simpa [iv] using ho9
      have N0 := (B9.out.block _ (block_lt R0.out)).trans R0.out
      have N1 := (B9.out.block _ (block_lt R1.out)).trans R1.out
      have y0 : w9.cell? ⟨w.heap.size, 0, none⟩ = some (.slice A6 s.ms.length C6) := cell_of_block N0 0
      have y1 : w9.cell? ⟨w.heap.size, 1, none⟩ = some (.slice (some ⟨g2, 0, none⟩) (r.length + 1) c2) := cell_of_block N0 1
      have y2 : w9.cell? ⟨w.heap.size + 1, 0, none⟩ = some (.slice none 0 0) := cell_of_block N1 0
      have y3 : w9.cell? ⟨w.heap.size + 1, 1, none⟩ = some (.slice none 0 0) := cell_of_block N1 1
      have f1 := free_of_block N0 1
      have f2 := free_of_block N1 0
      have f3 := free_of_block N1 1
      have BB : Below w.heap.size w w9 := B7.out.trans (B9.out.mono B7.out.size)
      have O9 : w9.ownsRow w5.heap.size 75 4 (.slice A6 (upd s.ms ⟨m.who, m.q, 0, false⟩).length C6) (upd s.ms ⟨m.who, m.q, 0, false⟩).length ((upd s.ms ⟨m.who, m.q, 0, false⟩).map mrow).flatten := own_same O7.out fun k hk => B9.out.block k (O7.out.lt k hk).2
      have FIN := Lib.hid (fin_core (w := w) (w3 := w9.setCell ⟨w.heap.size, 1, none⟩ (.slice A9 (r.length + 1) c9)) (b := w.heap.size + 1) (s' := ⟨upd s.ms ⟨m.who, m.q, 0, false⟩, r ++ [m.who]⟩) (G := G) (A1 := A6) (A2 := A9) (c1 := C6) (c2 := c9) (BB.setCell (p := ⟨w.heap.size, 1, none⟩) (Nat.le_refl _) _)
        ((hset_other _ _ _ (by show w.heap.size + 1 ≠ w.heap.size; omega)).trans N1) (by omega) (own_base (own_box O9 N0 (by decide) _ _) (Nat.zero_le _))
        (own_base (own_box ho N0 (by decide) 1 (.slice A9 (r.length + 1) c9)) (Nat.zero_le _))
        (fun k hk => hk.elim (fun hk => .inr (by have h1 := (O9.lt k hk).1; have := B5.out.size; omega)) (fun hk => .inr (by have h1 := (ho.lt k hk).1; have := HZ7.out.1; omega))))
      clear ho9 hg9 ho N0 N1 BB y9 O9 x1
      simp only [upd_length, List.length_append, List.length_cons, List.length_nil, Nat.zero_add] at FIN
      go_wp2_with fail
      exact bodyPost_ret (v := .tuple #[.agg #[.slice A6 s.ms.length C6, .slice A9 (r.length + 1) c9], .bool true]) (by simp [results, Try.results27, go_sem, y0, y1, y2, y3]) rfl ⟨_, by rw [E.out.2], by rw [E.out.1]; exact FIN.out.1, FIN.out.2⟩
set_option maxRecDepth 100000 in
set_option maxHeartbeats 8000000 in
theorem refleaveFF_any {w : World} {v : Value} {s : Sc} {G : Nat → Prop} (h : IsR w v s G) (hs : s.ok) :
    Calls Try.prog 27 #[v, .bool false, .bool false] w (RfE w (s.leave false false) G (.bool s.leaveB)) := by
  obtain ⟨A1, c1, A2, c2, rfl, hr, hG⟩ := h
  have HH := Lib.hid hr
  have HG := Lib.hid hG
  have HS := Lib.hid hs
  have few := hs.few_act
  obtain ⟨w1, hw1, hB, h0, h1, hz⟩ := two_boxes w #[.slice A1 s.ms.length c1, .slice A2 s.act.length c2] #[.slice none 0 0, .slice none 0 0] 48 48
  have B1 := Lib.hid hB
  have HW := Lib.hid hw1
  have HZ := Lib.hid hz
  have M0 := Lib.hid h0
  have M1 := Lib.hid h1
  have x0 : w1.cell? ⟨w.heap.size, 0, none⟩ = some (.slice A1 s.ms.length c1) := cell_of_block h0 0
  have x1 : w1.cell? ⟨w.heap.size, 1, none⟩ = some (.slice A2 s.act.length c2) := cell_of_block h0 1
  have HP : Hid (∀ w', Below w.heap.size w w' → Calls Try.prog 39 #[.agg #[.slice A1 s.ms.length c1, .slice A2 s.act.length c2]] w' fun e w2 => e = .returned (.int .i64 (visI s)) ∧ Below w'.heap.size w' w2) := Lib.hid (fun w' hb =>
      visited_any ⟨own_same HH.out.r1 fun k hk => hb.block k (HH.out.r1.lt k hk).2, own_same HH.out.r2 fun k hk => hb.block k (HH.out.r2.lt k hk).2⟩ HS.out)
  cases hf : s.fv with
  | none =>
    have HF : Hid (∀ w3, Below w.heap.size w w3 → w3.heap[w.heap.size + 1]? = some (.cells #[.slice none 0 0, .slice none 0 0] 48 (0, 0)) → IsR ((w3.setCell ⟨w.heap.size + 1, 0, none⟩ (.slice A1 s.ms.length c1)).setCell ⟨w.heap.size + 1, 1, none⟩ (.slice A2 s.act.length c2)) (.agg #[.slice A1 s.ms.length c1, .slice A2 s.act.length c2]) s (fun k => G k ∨ w.heap.size ≤ k) ∧
        Below w.heap.size w ((w3.setCell ⟨w.heap.size + 1, 0, none⟩ (.slice A1 s.ms.length c1)).setCell ⟨w.heap.size + 1, 1, none⟩ (.slice A2 s.act.length c2))) := Lib.hid (fun w3 hb M =>
      fin_core hb M (by omega) (own_same HH.out.r1 fun k hk => hb.block k (HH.out.r1.lt k hk).2) (own_same HH.out.r2 fun k hk => hb.block k (HH.out.r2.lt k hk).2) (fun k hk => .inl (HG.out k hk)))
    have E : Hid (s.leave false false = s ∧ s.leaveB = false) := Lib.hid (by unfold Sc.leave Sc.leaveB; rw [hf]; exact ⟨rfl, rfl⟩)
    rw [show visI s = -1 by unfold visI; rw [hf]] at HP
    clear hf hw1 hB h0 h1 hz hr hG hs
    go_enter Try.func27, Try.ntmps27
    go_upto_region 1 with fail
    rw [HW.out]
    go_wp2_with fail
    refine (HP.out w1 B1.out).mono ?_
    rintro e w2 ⟨rfl, hb2⟩
    have N0 := (hb2.block _ (block_lt M0.out)).trans M0.out
    have N1 := (hb2.block _ (block_lt M1.out)).trans M1.out
    have y0 : w2.cell? ⟨w.heap.size, 0, none⟩ = some (.slice A1 s.ms.length c1) := cell_of_block N0 0
    have y1 : w2.cell? ⟨w.heap.size, 1, none⟩ = some (.slice A2 s.act.length c2) := cell_of_block N0 1
    have y2 : w2.cell? ⟨w.heap.size + 1, 0, none⟩ = some (.slice none 0 0) := cell_of_block N1 0
    have y3 : w2.cell? ⟨w.heap.size + 1, 1, none⟩ = some (.slice none 0 0) := cell_of_block N1 1
    have f2 := free_of_block N1 0
    have f3 := free_of_block N1 1
    have FIN := Lib.hid (HF.out w2 (B1.out.trans (hb2.mono (by rw [HZ.out]; omega))) N1)
    clear hb2 N0 N1 x0 x1
    go_wp2_with fail
    exact bodyPost_ret (v := .tuple #[.agg #[.slice A1 s.ms.length c1, .slice A2 s.act.length c2], .bool false]) (by simp [results, Try.results27, go_sem, y0, y1, y2, y3]) rfl ⟨_, by rw [E.out.2], by rw [E.out.1]; exact FIN.out.1, FIN.out.2⟩
  | some m =>
    obtain ⟨r, hact, -⟩ := head_some (fv_some hf).1
    obtain ⟨i, hvi, hmi, hil⟩ := visI_some hf
    obtain ⟨g1, rfl, hr1, hgl1⟩ := mrow_at HH.out.r1 hmi
    have r2 := HH.out.r2
    rw [hact] at r2
    obtain ⟨g2, rfl, hg2, hgl2, hcap⟩ := act_one r2
    have HR := Lib.hid hr1
    have HGL := Lib.hid hgl1
    have HSR : Hid (∀ w', Below w.heap.size w w' → Src w' (some ⟨g2, 1, none⟩) r.length (c2 - 1) (iv r)) := Lib.hid (fun w' hb => tail_src r2 hb)
    have GG1 : Hid (G g1 ∧ G g2) := Lib.hid ⟨hG g1 (.inl rfl), hG g2 (.inr rfl)⟩
    rw [hvi] at HP
    have hok := HS.out.each m (List.mem_of_getElem? hmi)
    have hd0 := hok.d0
    have hd1 := hok.d1
    have hic : (i : Int) < s.ms.length := by omega
    have hi0 : decide ((i : Int) < 0) = false := decide_eq_false (by omega)
    have Y1 : Hid ((Try.prog.info? 75).map (·.size) = some ([.int .i64 m.who, .int .u64 m.q, .int .u64 m.df, .bool m.vis] : List Value).length) := Lib.hid memSize
    have E : Hid (s.leave false false = ⟨upd s.ms ⟨m.who, m.q, 0, false⟩, r⟩ ∧ s.leaveB = true) := Lib.hid (by unfold Sc.leave Sc.leaveB; rw [hf, hact]; exact ⟨by simp, rfl⟩)
    have CH := Lib.hid (fun w' hb => change_upd (A2 := some ⟨g2, 0, none⟩) (n2 := s.act.length) (c2 := c2) (own_same HH.out.r1 fun k hk => hb.block k (HH.out.r1.lt k hk).2) HS.out hmi m.q (0) false : ∀ w', Below w.heap.size w w' → _)
    have hal : s.act.length = r.length + 1 := by rw [hact]; rfl
    clear hw1 hB h0 h1 hz hr hG hs r2 hact
    rw [hal] at M0 HW x1 few
    simp only [hal] at HP CH
    rw [hal]
    have hcap2 : (r.length : Int) + 1 ≤ c2 := by omega
    have hcap3 : (1 : Int) ≤ c2 := by omega
    have hr0 : (1 : Int) ≤ (r.length : Int) + 1 := by omega
    clear hf hvi hmi hil hr1 hgl1 hok hg2 hgl2
    go_enter Try.func27, Try.ntmps27
    go_upto_region 1 with fail
    rw [HW.out]
    go_wp2_with fail
    refine (HP.out w1 B1.out).mono ?_
    rintro e w2 ⟨rfl, hb2⟩
    have N0 := Lib.hid ((hb2.block _ (block_lt M0.out)).trans M0.out)
    have N1 := Lib.hid ((hb2.block _ (block_lt M1.out)).trans M1.out)
    have B2 : Hid (Below w.heap.size w w2) := Lib.hid (B1.out.trans (hb2.mono (by rw [HZ.out]; omega)))
    have y0 : w2.cell? ⟨w.heap.size, 0, none⟩ = some (.slice (some ⟨g1, 0, none⟩) s.ms.length c1) := cell_of_block N0.out 0
    have y1 : w2.cell? ⟨w.heap.size, 1, none⟩ = some (.slice (some ⟨g2, 0, none⟩) (r.length + 1) c2) := cell_of_block N0.out 1
    have R2 := Lib.hid (range_old HR.out B2.out HGL.out)
    clear hb2 x0 x1
    go_upto_region 8 with (refine wpList_load_mid rfl 75 (.tmp 19) rfl g1 (i * 4) rfl [.int .i64 m.who, .int .u64 m.q, .int .u64 m.df, .bool m.vis] _ R2.out Try.underlying75 rfl Y1.out ?_)
    obtain ⟨w5, hw5, hB5, M5, hz5⟩ := one_box w2 #[.int .i64 m.who, .int .u64 m.q, .int .u64 (0), .bool false] 75
    rw [hw5]
    have B5 : Hid (Below w.heap.size w w5) := Lib.hid (B2.out.trans (hB5.mono B2.out.size))
    have P0 := Lib.hid ((hB5.block _ (block_lt N0.out)).trans N0.out)
    have P1 := Lib.hid ((hB5.block _ (block_lt N1.out)).trans N1.out)
    have P9 := Lib.hid M5
    have HZ2 : Hid (w.heap.size + 1 < w2.heap.size ∧ w5.heap.size = w2.heap.size + 1) := Lib.hid ⟨block_lt N1.out, hz5⟩
    have z0 : w5.cell? ⟨w.heap.size, 0, none⟩ = some (.slice (some ⟨g1, 0, none⟩) s.ms.length c1) := cell_of_block P0.out 0
    have z1 : w5.cell? ⟨w.heap.size, 1, none⟩ = some (.slice (some ⟨g2, 0, none⟩) (r.length + 1) c2) := cell_of_block P0.out 1
    have q0 : w5.cell? ⟨w2.heap.size, 0, none⟩ = some (.int .i64 m.who) := cell_of_block M5 0
    have q1 : w5.cell? ⟨w2.heap.size, 1, none⟩ = some (.int .u64 m.q) := cell_of_block M5 1
    have q2 : w5.cell? ⟨w2.heap.size, 2, none⟩ = some (.int .u64 (0)) := cell_of_block M5 2
    have q3 : w5.cell? ⟨w2.heap.size, 3, none⟩ = some (.bool false) := cell_of_block M5 3
    clear hB5 M5 hz5 hw5 y0 y1
    go_wp2_with fail
    refine (CH.out w5 B5.out).mono ?_
    rintro e w6 ⟨A6, C6, rfl, ho6, hb6⟩
    have B6 : Below w.heap.size w w6 := B5.out.trans (hb6.mono B5.out.size)
    have Q0 := (hb6.block _ (block_lt P0.out)).trans P0.out
    have Q1 := (hb6.block _ (block_lt P1.out)).trans P1.out
    have Q9 := (hb6.block _ (block_lt P9.out)).trans P9.out
    have z0 : w6.cell? ⟨w.heap.size, 0, none⟩ = some (.slice (some ⟨g1, 0, none⟩) s.ms.length c1) := cell_of_block Q0 0
    have z1 : w6.cell? ⟨w.heap.size, 1, none⟩ = some (.slice (some ⟨g2, 0, none⟩) (r.length + 1) c2) := cell_of_block Q0 1
    have f0 := free_of_block Q0 0
    have f1 := free_of_block Q0 1
    obtain ⟨w7, hw7⟩ : ∃ w7, (w6.setCell ⟨w.heap.size, 0, none⟩ (.slice A6 s.ms.length C6)).setCell ⟨w.heap.size, 1, none⟩ (.slice (some ⟨g2, 0, none⟩) (r.length + 1) c2) = w7 := ⟨_, rfl⟩
    have HW7 := Lib.hid hw7
    have B7 : Hid (Below w.heap.size w w7) := Lib.hid (by rw [← hw7]; exact (B6.setCell (p := ⟨w.heap.size, 0, none⟩) (Nat.le_refl _) _).setCell (p := ⟨w.heap.size, 1, none⟩) (Nat.le_refl _) _)
    have R0 : Hid (w7.heap[w.heap.size]? = some (.cells #[.slice A6 s.ms.length C6, .slice (some ⟨g2, 0, none⟩) (r.length + 1) c2] 48 (0, 0))) := Lib.hid (by rw [← hw7]; exact hset_at _ w.heap.size 1 _ (hset_at w6 w.heap.size 0 _ Q0))
    have R1 : Hid (w7.heap[w.heap.size + 1]? = some (.cells #[.slice none 0 0, .slice none 0 0] 48 (0, 0))) := Lib.hid (by rw [← hw7]; exact (hset_other _ _ _ (by show w.heap.size + 1 ≠ w.heap.size; omega)).trans ((hset_other _ _ _ (by show w.heap.size + 1 ≠ w.heap.size; omega)).trans Q1))
    have R9 : Hid (w7.heap[w2.heap.size]? = some (.cells #[.int .i64 m.who, .int .u64 m.q, .int .u64 (0), .bool false] 75 (0, 0))) := Lib.hid (by have := HZ2.out.1; rw [← hw7]; exact (hset_other _ _ _ (by show w2.heap.size ≠ w.heap.size; omega)).trans ((hset_other _ _ _ (by show w2.heap.size ≠ w.heap.size; omega)).trans Q9))
    have HO6 := Lib.hid ho6
    have O7 : Hid (w7.ownsRow w5.heap.size 75 4 (.slice A6 (upd s.ms ⟨m.who, m.q, 0, false⟩).length C6) (upd s.ms ⟨m.who, m.q, 0, false⟩).length ((upd s.ms ⟨m.who, m.q, 0, false⟩).map mrow).flatten) := Lib.hid (by
      rw [← hw7]
      exact own_box (own_box ho6 Q0 (by decide) _ _) (hset_at w6 w.heap.size 0 _ Q0) (by decide) _ _)
    clear ho6 hb6 B6 Q0 Q1 Q9 hw7 q0 q1 q2 q3
    go_upto_region 9 with fail
    rw [HW7.out]
    clear HW7 z0 z1 f0 f1
    have HZ7 : Hid (w.heap.size + 1 < w7.heap.size ∧ w2.heap.size < w7.heap.size) := Lib.hid ⟨block_lt R1.out, block_lt R9.out⟩
    have x1 : (w7.alloc (.cells #[] 3)).cell? ⟨w.heap.size, 1, none⟩ = some (.slice (some ⟨g2, 0, none⟩) (r.length + 1) c2) := cell_of_block ((heap_alloc_old _ _ (block_lt R0.out)).trans R0.out) 1
    have HL : Hid ((iv r).length = r.length * 1) := Lib.hid (by simp [iv])
    have H1 := Lib.hid (iv_one r)
    have HB : Hid ((0 + r.length) * 8 ≤ 140737488355328) := Lib.hid (by omega)
    have HB2 : Hid ((r.length + 1) * 8 ≤ 140737488355328) := Lib.hid (by omega)
    have HO : Hid ((w7.alloc (.cells #[] 3)).ownsRow w7.heap.size 3 1 (.slice (some ⟨w7.heap.size, 0, none⟩) 0 0) 0 []) := Lib.hid (World.ownsRow_made w7 #[] 0 (Nat.le_refl _) (Nat.zero_le _) rfl)
    have HRS : Hid (c2 = 1 → Src (w7.alloc (.cells #[] 3)) (some ⟨g2, 0, none⟩) r.length 0 (iv r)) := Lib.hid (fun hc => by
      have : r = [] := List.eq_nil_of_length_eq_zero (by omega)
      subst this
      exact nil_src)
    have HRT := Lib.hid (HSR.out _ (B7.out.alloc B7.out.size (.cells #[] 3)))
    have hcN : (c2 : Int) - 1 = ((c2 - 1 : Nat) : Int) := by omega
    by_cases hc : c2 = 1
    · have HRU := Lib.hid (HRS.out hc)
      clear HRS HRT HSR
      go_upto_region 10 with (at_builtin; refine wpList_append_any rfl (.tmp 29) (.tmp 32) 38 rfl w7.heap.size 3 (.int .i64 0) 1 8 Try.underlying38 intInfo rfl (by decide) (by decide) (.slice (some ⟨w7.heap.size, 0, none⟩) 0 0) 0 [] rfl HO.out (some ⟨g2, 0, none⟩) r.length 0 (iv r) rfl HRU.out HL.out H1.out HB.out (by simp) ?_)
      intro v8 w8 ho8 hg8 _ _
      try simp only [Nat.zero_add, List.nil_append] at ho8
      obtain ⟨A8, c8, rfl, -⟩ := own_form ho8
      have B8 : Hid (Below w7.heap.size w7 w8) := Lib.hid (((Below.refl _ w7).alloc (Nat.le_refl _) (.cells #[] 3)).grown hg8 (by simp) (fun k hk => by injection hk with hk; have hk : w7.heap.size = k := hk; omega))
      have HO8 := Lib.hid ho8
      clear ho8 hg8
      have ho := HO8.out
      have N0 := (B8.out.block _ (block_lt R0.out)).trans R0.out
      have N1 := (B8.out.block _ (block_lt R1.out)).trans R1.out
      have y0 : w8.cell? ⟨w.heap.size, 0, none⟩ = some (.slice A6 s.ms.length C6) := cell_of_block N0 0
      have y1 : w8.cell? ⟨w.heap.size, 1, none⟩ = some (.slice (some ⟨g2, 0, none⟩) (r.length + 1) c2) := cell_of_block N0 1
      have y2 : w8.cell? ⟨w.heap.size + 1, 0, none⟩ = some (.slice none 0 0) := cell_of_block N1 0
      have y3 : w8.cell? ⟨w.heap.size + 1, 1, none⟩ = some (.slice none 0 0) := cell_of_block N1 1
      have f1 := free_of_block N0 1
      have f2 := free_of_block N1 0
      have f3 := free_of_block N1 1
      have BB : Below w.heap.size w w8 := B7.out.trans (B8.out.mono B7.out.size)
      have O9 : w8.ownsRow w5.heap.size 75 4 (.slice A6 (upd s.ms ⟨m.who, m.q, 0, false⟩).length C6) (upd s.ms ⟨m.who, m.q, 0, false⟩).length ((upd s.ms ⟨m.who, m.q, 0, false⟩).map mrow).flatten := own_same O7.out fun k hk => B8.out.block k (O7.out.lt k hk).2
      have FIN := Lib.hid (fin_core (w := w) (w3 := w8.setCell ⟨w.heap.size, 1, none⟩ (.slice A8 r.length c8)) (b := w.heap.size + 1) (s' := ⟨upd s.ms ⟨m.who, m.q, 0, false⟩, r⟩) (G := G) (A1 := A6) (A2 := A8) (c1 := C6) (c2 := c8) (BB.setCell (p := ⟨w.heap.size, 1, none⟩) (Nat.le_refl _) _)
        ((hset_other _ _ _ (by show w.heap.size + 1 ≠ w.heap.size; omega)).trans N1) (by omega) (own_base (own_box O9 N0 (by decide) _ _) (Nat.zero_le _))
        (own_base (own_box ho N0 (by decide) 1 (.slice A8 r.length c8)) (Nat.zero_le _))
        (fun k hk => hk.elim (fun hk => .inr (by have h1 := (O9.lt k hk).1; have := B5.out.size; omega)) (fun hk => .inr (by have h1 := (ho.lt k hk).1; have := HZ7.out.1; omega))))
      clear ho N0 N1 BB O9 x1
      simp only [upd_length, List.length_append, List.length_cons, List.length_nil, Nat.zero_add] at FIN
      go_wp2_with fail
      exact bodyPost_ret (v := .tuple #[.agg #[.slice A6 s.ms.length C6, .slice A8 r.length c8], .bool true]) (by simp [results, Try.results27, go_sem, y0, y1, y2, y3]) rfl ⟨_, by rw [E.out.2], by rw [E.out.1]; exact FIN.out.1, FIN.out.2⟩
    · clear HRS
      go_upto_region 10 with (at_builtin; refine wpList_append_any rfl (.tmp 29) (.tmp 32) 38 rfl w7.heap.size 3 (.int .i64 0) 1 8 Try.underlying38 intInfo rfl (by decide) (by decide) (.slice (some ⟨w7.heap.size, 0, none⟩) 0 0) 0 [] rfl HO.out (some ⟨g2, 1, none⟩) r.length (c2 - 1) (iv r) rfl HRT.out HL.out H1.out HB.out (by simp) ?_)
      intro v8 w8 ho8 hg8 _ _
      try simp only [Nat.zero_add, List.nil_append] at ho8
      obtain ⟨A8, c8, rfl, -⟩ := own_form ho8
      have B8 : Hid (Below w7.heap.size w7 w8) := Lib.hid (((Below.refl _ w7).alloc (Nat.le_refl _) (.cells #[] 3)).grown hg8 (by simp) (fun k hk => by injection hk with hk; have hk : w7.heap.size = k := hk; omega))
      have HO8 := Lib.hid ho8
      clear ho8 hg8
      have ho := HO8.out
      have N0 := (B8.out.block _ (block_lt R0.out)).trans R0.out
      have N1 := (B8.out.block _ (block_lt R1.out)).trans R1.out
      have y0 : w8.cell? ⟨w.heap.size, 0, none⟩ = some (.slice A6 s.ms.length C6) := cell_of_block N0 0
      have y1 : w8.cell? ⟨w.heap.size, 1, none⟩ = some (.slice (some ⟨g2, 0, none⟩) (r.length + 1) c2) := cell_of_block N0 1
      have y2 : w8.cell? ⟨w.heap.size + 1, 0, none⟩ = some (.slice none 0 0) := cell_of_block N1 0
      have y3 : w8.cell? ⟨w.heap.size + 1, 1, none⟩ = some (.slice none 0 0) := cell_of_block N1 1
      have f1 := free_of_block N0 1
      have f2 := free_of_block N1 0
      have f3 := free_of_block N1 1
      have BB : Below w.heap.size w w8 := B7.out.trans (B8.out.mono B7.out.size)
      have O9 : w8.ownsRow w5.heap.size 75 4 (.slice A6 (upd s.ms ⟨m.who, m.q, 0, false⟩).length C6) (upd s.ms ⟨m.who, m.q, 0, false⟩).length ((upd s.ms ⟨m.who, m.q, 0, false⟩).map mrow).flatten := own_same O7.out fun k hk => B8.out.block k (O7.out.lt k hk).2
      have FIN := Lib.hid (fin_core (w := w) (w3 := w8.setCell ⟨w.heap.size, 1, none⟩ (.slice A8 r.length c8)) (b := w.heap.size + 1) (s' := ⟨upd s.ms ⟨m.who, m.q, 0, false⟩, r⟩) (G := G) (A1 := A6) (A2 := A8) (c1 := C6) (c2 := c8) (BB.setCell (p := ⟨w.heap.size, 1, none⟩) (Nat.le_refl _) _)
        ((hset_other _ _ _ (by show w.heap.size + 1 ≠ w.heap.size; omega)).trans N1) (by omega) (own_base (own_box O9 N0 (by decide) _ _) (Nat.zero_le _))
        (own_base (own_box ho N0 (by decide) 1 (.slice A8 r.length c8)) (Nat.zero_le _))
        (fun k hk => hk.elim (fun hk => .inr (by have h1 := (O9.lt k hk).1; have := B5.out.size; omega)) (fun hk => .inr (by have h1 := (ho.lt k hk).1; have := HZ7.out.1; omega))))
      clear ho N0 N1 BB O9 x1
      simp only [upd_length, List.length_append, List.length_cons, List.length_nil, Nat.zero_add] at FIN
      go_wp2_with fail
      exact bodyPost_ret (v := .tuple #[.agg #[.slice A6 s.ms.length C6, .slice A8 r.length c8], .bool true]) (by simp [results, Try.results27, go_sem, y0, y1, y2, y3]) rfl ⟨_, by rw [E.out.2], by rw [E.out.1]; exact FIN.out.1, FIN.out.2⟩
end Go.Proofs.Ytliepgmjpbjhfaa.Drr
