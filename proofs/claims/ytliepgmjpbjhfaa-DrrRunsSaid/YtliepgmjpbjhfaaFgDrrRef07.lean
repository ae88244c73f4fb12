/- The document's scheduler: Set. Conditions: none beyond each lemma's own hypotheses. Printed by drrref07.py. -/
import Derived.Test.YtliepgmjpbjhfaaFgDrrRef06
import Derived.Test.YtliepgmjpbjhfaaFgDrrSet
set_option linter.unusedVariables false
set_option linter.unusedSimpArgs false
namespace Go.Proofs.Ytliepgmjpbjhfaa.Drr
open Go.RowKit Go.Proofs.Ytliepgmjpbjhfaa.Fg Go.Shelf Go.Maps

theorem memInfo2 : (Try.prog.info? 75).map (fun i => (i.zero, i.size)) = some (some (.agg #[.int .i64 0, .int .u64 0, .int .u64 0, .bool false]), 4) := by kernel_rfl
set_option maxRecDepth 100000 in
set_option maxHeartbeats 8000000 in
theorem refset_any {w : World} {v : Value} {s : Sc} {G : Nat → Prop} (h : IsR w v s G) (hs : s.ok) (x q : Int) (hq : 0 ≤ q) :
    Calls Try.prog 22 #[v, .int .i64 x, .int .u64 q] w (RfE w (s.set x q) G (.int .i64 (s.setE x q))) := by
  obtain ⟨A1, c1, A2, c2, rfl, hr, hG⟩ := h
  have HH := Lib.hid hr
  have HG := Lib.hid hG
  have HS := Lib.hid hs
  have few := hs.few
  obtain ⟨w1, hw1, hB, h0, h1, hz⟩ := two_boxes w #[.slice A1 s.ms.length c1, .slice A2 s.act.length c2] #[.slice none 0 0, .slice none 0 0] 48 48
  have B1 := Lib.hid hB
  have HW := Lib.hid hw1
  have HZ := Lib.hid hz
  have M0 := Lib.hid h0
  have M1 := Lib.hid h1
  have x0 : w1.cell? ⟨w.heap.size, 0, none⟩ = some (.slice A1 s.ms.length c1) := cell_of_block h0 0
  have x1 : w1.cell? ⟨w.heap.size, 1, none⟩ = some (.slice A2 s.act.length c2) := cell_of_block h0 1
  have HP : Hid (∀ w', Below w.heap.size w w' → Calls Try.prog 35 #[.agg #[.slice A1 s.ms.length c1, .slice A2 s.act.length c2], .int .i64 x] w' fun e w2 => e = .returned (.int .i64 (plc s.ms x)) ∧ Below w'.heap.size w' w2) := Lib.hid (fun w' hb =>
      place_any (own_same HH.out.r1 fun k hk => hb.block k (HH.out.r1.lt k hk).2) x)
  have HF : Hid (∀ w3, Below w.heap.size w w3 → w3.heap[w.heap.size + 1]? = some (.cells #[.slice none 0 0, .slice none 0 0] 48 (0, 0)) → IsR ((w3.setCell ⟨w.heap.size + 1, 0, none⟩ (.slice A1 s.ms.length c1)).setCell ⟨w.heap.size + 1, 1, none⟩ (.slice A2 s.act.length c2)) (.agg #[.slice A1 s.ms.length c1, .slice A2 s.act.length c2]) s (fun k => G k ∨ w.heap.size ≤ k) ∧
      Below w.heap.size w ((w3.setCell ⟨w.heap.size + 1, 0, none⟩ (.slice A1 s.ms.length c1)).setCell ⟨w.heap.size + 1, 1, none⟩ (.slice A2 s.act.length c2))) := Lib.hid (fun w3 hb M =>
    fin_core hb M (by omega) (own_same HH.out.r1 fun k hk => hb.block k (HH.out.r1.lt k hk).2) (own_same HH.out.r2 fun k hk => hb.block k (HH.out.r2.lt k hk).2) (fun k hk => .inl (HG.out k hk)))
  have HE : ∀ hc : (q = 0 ∨ 281474976710656 < q ∨ (fnd s.ms x = none ∧ 8 ≤ s.ms.length)), Hid (s.setE x q = 201 ∧ s.set x q = s) := fun hc => Lib.hid (by
    have e : s.setE x q = 201 := if_pos hc
    refine ⟨e, ?_⟩
    unfold Sc.set
    rw [e, if_neg (by decide)])
  have H0 : ∀ hc : ¬ (q = 0 ∨ 281474976710656 < q ∨ (fnd s.ms x = none ∧ 8 ≤ s.ms.length)), s.setE x q = 0 := fun hc => if_neg hc
  clear hw1 hB h0 h1 hz hr hG hs
  cases hf : fnd s.ms x with
  | none =>
    rw [plc_none hf] at HP
    by_cases h1 : q = 0
    · have T := HE (.inl h1)
      have b1 : (q == 0) = true := by simpa using h1
      clear hf HE H0 h1
      go_enter Try.func22, Try.ntmps22
      go_upto_region 1 with fail
      rw [HW.out]
      go_wp2_with fail
      refine (HP.out w1 B1.out).mono ?_
      rintro e w2 ⟨rfl, hb2⟩
      have N0 := Lib.hid ((hb2.block _ (block_lt M0.out)).trans M0.out)
      have N1 := Lib.hid ((hb2.block _ (block_lt M1.out)).trans M1.out)
      have B2 : Hid (Below w.heap.size w w2) := Lib.hid (B1.out.trans (hb2.mono (by rw [HZ.out]; omega)))
      have y0 : w2.cell? ⟨w.heap.size, 0, none⟩ = some (.slice A1 s.ms.length c1) := cell_of_block N0.out 0
      have y1 : w2.cell? ⟨w.heap.size, 1, none⟩ = some (.slice A2 s.act.length c2) := cell_of_block N0.out 1
      clear hb2 x0 x1
      have y2 : w2.cell? ⟨w.heap.size + 1, 0, none⟩ = some (.slice none 0 0) := cell_of_block N1.out 0
      have y3 : w2.cell? ⟨w.heap.size + 1, 1, none⟩ = some (.slice none 0 0) := cell_of_block N1.out 1
      have f2 := free_of_block N1.out 0
      have f3 := free_of_block N1.out 1
      have FIN := Lib.hid (HF.out w2 B2.out N1.out)
      go_wp2_with fail
      exact bodyPost_ret (v := .tuple #[.agg #[.slice A1 s.ms.length c1, .slice A2 s.act.length c2], .int .i64 201]) (by simp [results, Try.results22, go_sem, y0, y1, y2, y3]) rfl ⟨_, by rw [T.out.1], by rw [T.out.2]; exact FIN.out.1, FIN.out.2⟩
    have b1 : (q == 0) = false := by simpa using h1
    by_cases h2 : 281474976710656 < q
    · have T := HE (.inr (.inl h2))
      have b2 : decide (281474976710656 < q) = true := decide_eq_true h2
      clear hf HE H0 h1
      go_enter Try.func22, Try.ntmps22
      go_upto_region 1 with fail
      rw [HW.out]
      go_wp2_with fail
      refine (HP.out w1 B1.out).mono ?_
      rintro e w2 ⟨rfl, hb2⟩
      have N0 := Lib.hid ((hb2.block _ (block_lt M0.out)).trans M0.out)
      have N1 := Lib.hid ((hb2.block _ (block_lt M1.out)).trans M1.out)
      have B2 : Hid (Below w.heap.size w w2) := Lib.hid (B1.out.trans (hb2.mono (by rw [HZ.out]; omega)))
      have y0 : w2.cell? ⟨w.heap.size, 0, none⟩ = some (.slice A1 s.ms.length c1) := cell_of_block N0.out 0
      have y1 : w2.cell? ⟨w.heap.size, 1, none⟩ = some (.slice A2 s.act.length c2) := cell_of_block N0.out 1
      clear hb2 x0 x1
      have y2 : w2.cell? ⟨w.heap.size + 1, 0, none⟩ = some (.slice none 0 0) := cell_of_block N1.out 0
      have y3 : w2.cell? ⟨w.heap.size + 1, 1, none⟩ = some (.slice none 0 0) := cell_of_block N1.out 1
      have f2 := free_of_block N1.out 0
      have f3 := free_of_block N1.out 1
      have FIN := Lib.hid (HF.out w2 B2.out N1.out)
      go_wp2_with fail
      exact bodyPost_ret (v := .tuple #[.agg #[.slice A1 s.ms.length c1, .slice A2 s.act.length c2], .int .i64 201]) (by simp [results, Try.results22, go_sem, y0, y1, y2, y3]) rfl ⟨_, by rw [T.out.1], by rw [T.out.2]; exact FIN.out.1, FIN.out.2⟩
    have b2 : decide (281474976710656 < q) = false := decide_eq_false h2
    by_cases h3 : 8 ≤ s.ms.length
    · have T := HE (.inr (.inr ⟨hf, h3⟩))
      have b3 : decide ((8 : Int) ≤ s.ms.length) = true := decide_eq_true (by omega)
      clear hf HE H0 h1 h2
      go_enter Try.func22, Try.ntmps22
      go_upto_region 1 with fail
      rw [HW.out]
      go_wp2_with fail
      refine (HP.out w1 B1.out).mono ?_
      rintro e w2 ⟨rfl, hb2⟩
      have N0 := Lib.hid ((hb2.block _ (block_lt M0.out)).trans M0.out)
      have N1 := Lib.hid ((hb2.block _ (block_lt M1.out)).trans M1.out)
      have B2 : Hid (Below w.heap.size w w2) := Lib.hid (B1.out.trans (hb2.mono (by rw [HZ.out]; omega)))
      have y0 : w2.cell? ⟨w.heap.size, 0, none⟩ = some (.slice A1 s.ms.length c1) := cell_of_block N0.out 0
      have y1 : w2.cell? ⟨w.heap.size, 1, none⟩ = some (.slice A2 s.act.length c2) := cell_of_block N0.out 1
      clear hb2 x0 x1
      have y2 : w2.cell? ⟨w.heap.size + 1, 0, none⟩ = some (.slice none 0 0) := cell_of_block N1.out 0
      have y3 : w2.cell? ⟨w.heap.size + 1, 1, none⟩ = some (.slice none 0 0) := cell_of_block N1.out 1
      have f2 := free_of_block N1.out 0
      have f3 := free_of_block N1.out 1
      have FIN := Lib.hid (HF.out w2 B2.out N1.out)
      go_wp2_with fail
      exact bodyPost_ret (v := .tuple #[.agg #[.slice A1 s.ms.length c1, .slice A2 s.act.length c2], .int .i64 201]) (by simp [results, Try.results22, go_sem, y0, y1, y2, y3]) rfl ⟨_, by rw [T.out.1], by rw [T.out.2]; exact FIN.out.1, FIN.out.2⟩
    have b3 : decide ((8 : Int) ≤ s.ms.length) = false := decide_eq_false (by omega)
    have E := Lib.hid (H0 (by rintro (hc | hc | hc); exact h1 hc; exact h2 hc; exact h3 hc.2))
    have S2 : Hid (s.set x q = ⟨s.ms ++ [⟨x, q, 0, false⟩], s.act⟩) := Lib.hid (by unfold Sc.set; rw [if_pos E.out, hf])
    clear hf HE H0 h1 h2 h3
    go_enter Try.func22, Try.ntmps22
    go_upto_region 1 with fail
    rw [HW.out]
    go_wp2_with fail
    refine (HP.out w1 B1.out).mono ?_
    rintro e w2 ⟨rfl, hb2⟩
    have N0 := Lib.hid ((hb2.block _ (block_lt M0.out)).trans M0.out)
    have N1 := Lib.hid ((hb2.block _ (block_lt M1.out)).trans M1.out)
    have B2 : Hid (Below w.heap.size w w2) := Lib.hid (B1.out.trans (hb2.mono (by rw [HZ.out]; omega)))
    have y0 : w2.cell? ⟨w.heap.size, 0, none⟩ = some (.slice A1 s.ms.length c1) := cell_of_block N0.out 0
    have y1 : w2.cell? ⟨w.heap.size, 1, none⟩ = some (.slice A2 s.act.length c2) := cell_of_block N0.out 1
    clear hb2 x0 x1
    have HZ2 : Hid (w.heap.size + 1 < w2.heap.size) := Lib.hid (block_lt N1.out)
    have x1 : (w2.alloc (.cells #[] 75)).cell? ⟨w.heap.size, 0, none⟩ = some (.slice A1 s.ms.length c1) := cell_of_block ((heap_alloc_old _ _ (block_lt N0.out)).trans N0.out) 0
    have HSr : Hid (Src (w2.alloc (.cells #[] 75)) A1 s.ms.length c1 (s.ms.map mrow).flatten) := Lib.hid (Fg.Src.of_own (own_same HH.out.r1 fun k hk => ((heap_alloc_old _ _ (by have := (HH.out.r1.lt k hk).2; have := HZ2.out; omega)).trans (B2.out.block k (HH.out.r1.lt k hk).2))))
    have HL : Hid ((s.ms.map mrow).flatten.length = s.ms.length * 4) := Lib.hid (by rw [flat_len (mrow_4 s.ms), List.length_map])
    have HB : Hid ((0 + s.ms.length) * 32 ≤ 140737488355328) := Lib.hid (by omega)
    have HB2 : Hid ((s.ms.length + 1) * 32 ≤ 140737488355328) := Lib.hid (by omega)
    have HO : Hid ((w2.alloc (.cells #[] 75)).ownsRow w2.heap.size 75 4 (.slice (some ⟨w2.heap.size, 0, none⟩) 0 0) 0 []) := Lib.hid (World.ownsRow_made w2 #[] 0 (Nat.le_refl _) (Nat.zero_le _) rfl)
    go_wp2_with (at_builtin; refine wpList_append_any rfl (.tmp 33) (.tmp 35) 46 rfl w2.heap.size 75 (.agg #[.int .i64 0, .int .u64 0, .int .u64 0, .bool false]) 4 32 Try.underlying46 memInfo rfl (by decide) (by decide) (.slice (some ⟨w2.heap.size, 0, none⟩) 0 0) 0 [] rfl HO.out A1 s.ms.length c1 (s.ms.map mrow).flatten rfl HSr.out HL.out (mrow_one s.ms) HB.out (by simp) ?_)
    intro v7 w7 ho7 hg7 _ _
    try simp only [Nat.zero_add, List.nil_append] at ho7
    have B7 : Hid (Below w2.heap.size w2 w7) := Lib.hid (((Below.refl _ w2).alloc (Nat.le_refl _) (.cells #[] 75)).grown hg7 (by simp) (fun k hk => by injection hk with hk; have hk : w2.heap.size = k := hk; omega))
    have HA : Hid ((w7.alloc (.cells #[.int .i64 x, .int .u64 q, .int .u64 0, .bool false] 75)).ownsRow w2.heap.size 75 4 v7 s.ms.length (s.ms.map mrow).flatten) := Lib.hid (own_same ho7 fun k hk => heap_alloc_old w7 _ (ho7.lt k hk).2)
    have HO7 := Lib.hid ho7
    have SS := Lib.hid (src_rows w7 [.int .i64 x, .int .u64 q, .int .u64 0, .bool false] 75 1 (by decide))
    have HZ7 : Hid (w2.heap.size ≤ (w7.alloc (.cells #[.int .i64 x, .int .u64 q, .int .u64 0, .bool false] 75)).heap.size) := Lib.hid (by have := B7.out.size; simp; omega)
    clear ho7 hg7
    go_wp2_with (first
      | refine wpList_slice_one rfl 46 75 (.tmp 40) rfl 4 (.agg #[.int .i64 0, .int .u64 0, .int .u64 0, .bool false]) (.agg #[.int .i64 x, .int .u64 q, .int .u64 0, .bool false]) rfl Try.underlying46 memInfo2 (by decide) (by decide) rfl ?_
      | (at_builtin; refine wpList_append_any rfl (.tmp 37) (.tmp 41) 46 rfl w2.heap.size 75 (.agg #[.int .i64 0, .int .u64 0, .int .u64 0, .bool false]) 4 32 Try.underlying46 memInfo rfl (by decide) (by decide) v7 s.ms.length _ rfl HA.out (some ⟨_, 0, none⟩) 1 1 [.int .i64 x, .int .u64 q, .int .u64 0, .bool false] rfl SS.out rfl (by simp [Value.oneCell']) HB2.out HZ7.out ?_))
    intro v9 w9 ho9 hg9 _ _
    obtain ⟨A9, c9, rfl, -⟩ := own_form ho9
    have B9 : Hid (Below w2.heap.size w2 w9) := Lib.hid ((B7.out.alloc B7.out.size (.cells #[.int .i64 x, .int .u64 q, .int .u64 0, .bool false] 75)).grown hg9 HZ7.out (fun k hk => (HO7.out.lt k hk).1))
    have P0 := (B9.out.block _ (block_lt N0.out)).trans N0.out
    have P1 := (B9.out.block _ (block_lt N1.out)).trans N1.out
    have z0 : w9.cell? ⟨w.heap.size, 0, none⟩ = some (.slice A1 s.ms.length c1) := cell_of_block P0 0
    have z1 : w9.cell? ⟨w.heap.size, 1, none⟩ = some (.slice A2 s.act.length c2) := cell_of_block P0 1
    have z2 : w9.cell? ⟨w.heap.size + 1, 0, none⟩ = some (.slice none 0 0) := cell_of_block P1 0
    have z3 : w9.cell? ⟨w.heap.size + 1, 1, none⟩ = some (.slice none 0 0) := cell_of_block P1 1
    have f1 := free_of_block P0 0
    have f2 := free_of_block P1 0
    have f3 := free_of_block P1 1
    have BB : Below w.heap.size w w9 := B2.out.trans (B9.out.mono B2.out.size)
    have FIN := Lib.hid (fin_core (w := w) (w3 := w9.setCell ⟨w.heap.size, 0, none⟩ (.slice A9 (s.ms.length + 1) c9)) (b := w.heap.size + 1) (s' := ⟨s.ms ++ [⟨x, q, 0, false⟩], s.act⟩) (G := G) (A1 := A9) (A2 := A2) (c1 := c9) (c2 := c2) (BB.setCell (p := ⟨w.heap.size, 0, none⟩) (Nat.le_refl _) _)
      ((hset_other _ _ _ (by show w.heap.size + 1 ≠ w.heap.size; omega)).trans P1) (by omega)
      (by
        have ho : w9.ownsRow w2.heap.size 75 4 (.slice A9 (s.ms ++ [(⟨x, q, 0, false⟩ : Mb)]).length c9) (s.ms ++ [(⟨x, q, 0, false⟩ : Mb)]).length ((s.ms ++ [(⟨x, q, 0, false⟩ : Mb)]).map mrow).flatten := by simpa [mrow] using ho9
        exact own_base (own_box ho P0 (by decide) 0 (.slice A9 (s.ms.length + 1) c9)) (Nat.zero_le _))
      (own_box (own_same HH.out.r2 fun k hk => BB.block k (HH.out.r2.lt k hk).2) P0 (by decide) _ _)
      (fun k hk => hk.elim (fun hk => .inr (by
        have h1 := (ho9.lt k (by simpa [Value.ownBlock] using hk)).1
        have := HZ2.out
        omega)) (fun hk => .inl (HG.out k (.inr hk)))))
    clear ho9 hg9 P0 P1 BB y0 y1
    simp only [List.length_append, List.length_cons, List.length_nil, Nat.zero_add] at FIN
    go_wp2_with fail
    exact bodyPost_ret (v := .tuple #[.agg #[.slice A9 (s.ms.length + 1) c9, .slice A2 s.act.length c2], .int .i64 0]) (by simp [results, Try.results22, go_sem, z0, z1, z2, z3]) rfl ⟨_, by rw [E.out], by rw [S2.out]; exact FIN.out.1, FIN.out.2⟩
  | some m =>
    have hwx := fnd_who hf
    have hne : ∀ hc : fnd s.ms x = none, False := fun hc => by rw [hf] at hc; cases hc
    obtain ⟨i, hvi, hmi, hil⟩ := plc_some hf
    obtain ⟨g1, rfl, hr1, hgl1⟩ := mrow_at HH.out.r1 hmi
    have HR := Lib.hid hr1
    have HGL := Lib.hid hgl1
    rw [hvi] at HP
    have hok := HS.out.each m (List.mem_of_getElem? hmi)
    have hd0 := hok.d0
    have hd1 := hok.d1
    have hic : (i : Int) < s.ms.length := by omega
    have hi0 : decide ((i : Int) < 0) = false := decide_eq_false (by omega)
    have Y1 : Hid ((Try.prog.info? 75).map (·.size) = some ([.int .i64 m.who, .int .u64 m.q, .int .u64 m.df, .bool m.vis] : List Value).length) := Lib.hid memSize
    by_cases h1 : q = 0
    · have T := HE (.inl h1)
      have b1 : (q == 0) = true := by simpa using h1
      clear hf HE H0 h1 hvi hmi hil hr1 hgl1 hok
      go_enter Try.func22, Try.ntmps22
      go_upto_region 1 with fail
      rw [HW.out]
      go_wp2_with fail
      refine (HP.out w1 B1.out).mono ?_
      rintro e w2 ⟨rfl, hb2⟩
      have N0 := Lib.hid ((hb2.block _ (block_lt M0.out)).trans M0.out)
      have N1 := Lib.hid ((hb2.block _ (block_lt M1.out)).trans M1.out)
      have B2 : Hid (Below w.heap.size w w2) := Lib.hid (B1.out.trans (hb2.mono (by rw [HZ.out]; omega)))
      have y0 : w2.cell? ⟨w.heap.size, 0, none⟩ = some (.slice (some ⟨g1, 0, none⟩) s.ms.length c1) := cell_of_block N0.out 0
      have y1 : w2.cell? ⟨w.heap.size, 1, none⟩ = some (.slice A2 s.act.length c2) := cell_of_block N0.out 1
      clear hb2 x0 x1
      have y2 : w2.cell? ⟨w.heap.size + 1, 0, none⟩ = some (.slice none 0 0) := cell_of_block N1.out 0
      have y3 : w2.cell? ⟨w.heap.size + 1, 1, none⟩ = some (.slice none 0 0) := cell_of_block N1.out 1
      have f2 := free_of_block N1.out 0
      have f3 := free_of_block N1.out 1
      have FIN := Lib.hid (HF.out w2 B2.out N1.out)
      go_wp2_with fail
      exact bodyPost_ret (v := .tuple #[.agg #[.slice (some ⟨g1, 0, none⟩) s.ms.length c1, .slice A2 s.act.length c2], .int .i64 201]) (by simp [results, Try.results22, go_sem, y0, y1, y2, y3]) rfl ⟨_, by rw [T.out.1], by rw [T.out.2]; exact FIN.out.1, FIN.out.2⟩
    have b1 : (q == 0) = false := by simpa using h1
    by_cases h2 : 281474976710656 < q
    · have T := HE (.inr (.inl h2))
      have b2 : decide (281474976710656 < q) = true := decide_eq_true h2
      clear hf HE H0 h1 hvi hmi hil hr1 hgl1 hok
      go_enter Try.func22, Try.ntmps22
      go_upto_region 1 with fail
      rw [HW.out]
      go_wp2_with fail
      refine (HP.out w1 B1.out).mono ?_
      rintro e w2 ⟨rfl, hb2⟩
      have N0 := Lib.hid ((hb2.block _ (block_lt M0.out)).trans M0.out)
      have N1 := Lib.hid ((hb2.block _ (block_lt M1.out)).trans M1.out)
      have B2 : Hid (Below w.heap.size w w2) := Lib.hid (B1.out.trans (hb2.mono (by rw [HZ.out]; omega)))
      have y0 : w2.cell? ⟨w.heap.size, 0, none⟩ = some (.slice (some ⟨g1, 0, none⟩) s.ms.length c1) := cell_of_block N0.out 0
      have y1 : w2.cell? ⟨w.heap.size, 1, none⟩ = some (.slice A2 s.act.length c2) := cell_of_block N0.out 1
      clear hb2 x0 x1
      have y2 : w2.cell? ⟨w.heap.size + 1, 0, none⟩ = some (.slice none 0 0) := cell_of_block N1.out 0
      have y3 : w2.cell? ⟨w.heap.size + 1, 1, none⟩ = some (.slice none 0 0) := cell_of_block N1.out 1
      have f2 := free_of_block N1.out 0
      have f3 := free_of_block N1.out 1
      have FIN := Lib.hid (HF.out w2 B2.out N1.out)
      go_wp2_with fail
      exact bodyPost_ret (v := .tuple #[.agg #[.slice (some ⟨g1, 0, none⟩) s.ms.length c1, .slice A2 s.act.length c2], .int .i64 201]) (by simp [results, Try.results22, go_sem, y0, y1, y2, y3]) rfl ⟨_, by rw [T.out.1], by rw [T.out.2]; exact FIN.out.1, FIN.out.2⟩
    have b2 : decide (281474976710656 < q) = false := decide_eq_false h2
    have E := Lib.hid (H0 (by rintro (hc | hc | hc); exact h1 hc; exact h2 hc; exact hne hc.1))
    by_cases h3 : m.q = q
    · have b3 : (m.q == q) = true := by simpa using h3
      have S2 : Hid (s.set x q = ⟨upd s.ms ⟨m.who, q, m.df, m.vis⟩, s.act⟩) := Lib.hid (by
        have e : (⟨m.who, q, m.df, m.vis⟩ : Mb) = m := by rw [← h3]
        rw [e, upd_self HS.out.apart (List.mem_of_getElem? hmi)]
        unfold Sc.set; rw [if_pos E.out, hf]; exact if_pos h3)
      have CH := Lib.hid (fun w' hb => change_upd (A2 := A2) (n2 := s.act.length) (c2 := c2) (own_same HH.out.r1 fun k hk => hb.block k (HH.out.r1.lt k hk).2) HS.out hmi q (m.df) m.vis : ∀ w', Below w.heap.size w w' → _)
      clear hf HE H0 h1 h2 hvi hmi hil hr1 hgl1 hok hne hwx
      go_enter Try.func22, Try.ntmps22
      go_upto_region 1 with fail
      rw [HW.out]
      go_wp2_with fail
      refine (HP.out w1 B1.out).mono ?_
      rintro e w2 ⟨rfl, hb2⟩
      have N0 := Lib.hid ((hb2.block _ (block_lt M0.out)).trans M0.out)
      have N1 := Lib.hid ((hb2.block _ (block_lt M1.out)).trans M1.out)
      have B2 : Hid (Below w.heap.size w w2) := Lib.hid (B1.out.trans (hb2.mono (by rw [HZ.out]; omega)))
      have y0 : w2.cell? ⟨w.heap.size, 0, none⟩ = some (.slice (some ⟨g1, 0, none⟩) s.ms.length c1) := cell_of_block N0.out 0
      have y1 : w2.cell? ⟨w.heap.size, 1, none⟩ = some (.slice A2 s.act.length c2) := cell_of_block N0.out 1
      clear hb2 x0 x1
      have R2 := Lib.hid (range_old HR.out B2.out HGL.out)
      go_upto_region 12 with (refine wpList_load_mid rfl 75 (.tmp 48) rfl g1 (i * 4) rfl [.int .i64 m.who, .int .u64 m.q, .int .u64 m.df, .bool m.vis] _ R2.out Try.underlying75 rfl Y1.out ?_)
      obtain ⟨w5, hw5, hB5, M5, hz5⟩ := one_box w2 #[.int .i64 m.who, .int .u64 q, .int .u64 (m.df), .bool m.vis] 75
      rw [hw5]
      have B5 : Hid (Below w.heap.size w w5) := Lib.hid (B2.out.trans (hB5.mono B2.out.size))
      have P0 := (hB5.block _ (block_lt N0.out)).trans N0.out
      have P1 := Lib.hid ((hB5.block _ (block_lt N1.out)).trans N1.out)
      have z0 : w5.cell? ⟨w.heap.size, 0, none⟩ = some (.slice (some ⟨g1, 0, none⟩) s.ms.length c1) := cell_of_block P0 0
      have z1 : w5.cell? ⟨w.heap.size, 1, none⟩ = some (.slice A2 s.act.length c2) := cell_of_block P0 1
      have q0 : w5.cell? ⟨w2.heap.size, 0, none⟩ = some (.int .i64 m.who) := cell_of_block M5 0
      have q1 : w5.cell? ⟨w2.heap.size, 1, none⟩ = some (.int .u64 q) := cell_of_block M5 1
      have q2 : w5.cell? ⟨w2.heap.size, 2, none⟩ = some (.int .u64 (m.df)) := cell_of_block M5 2
      have q3 : w5.cell? ⟨w2.heap.size, 3, none⟩ = some (.bool m.vis) := cell_of_block M5 3
      clear hB5 M5 hz5 P0 hw5 y0 y1
      go_wp2_with fail
      refine (CH.out w5 B5.out).mono ?_
      rintro e w6 ⟨A6, C6, rfl, ho6, hb6⟩
      have B6 : Below w.heap.size w w6 := B5.out.trans (hb6.mono B5.out.size)
      have Q1 := (hb6.block _ (block_lt P1.out)).trans P1.out
      have y2 : w6.cell? ⟨w.heap.size + 1, 0, none⟩ = some (.slice none 0 0) := cell_of_block Q1 0
      have y3 : w6.cell? ⟨w.heap.size + 1, 1, none⟩ = some (.slice none 0 0) := cell_of_block Q1 1
      have f2 := free_of_block Q1 0
      have f3 := free_of_block Q1 1
      have FIN := Lib.hid (fin_core (w := w) (w3 := w6) (b := w.heap.size + 1) (s' := ⟨upd s.ms ⟨m.who, q, m.df, m.vis⟩, s.act⟩) (G := G) (A1 := A6) (A2 := A2) (c1 := C6) (c2 := c2) B6 Q1 (by omega) (own_base ho6 (Nat.zero_le _))
        (own_same HH.out.r2 fun k hk => B6.block k (HH.out.r2.lt k hk).2)
        (fun k hk => hk.elim (fun hk => .inr (by have h1 := (ho6.lt k hk).1; have := B5.out.size; omega)) (fun hk => .inl (HG.out k (.inr hk)))))
      simp only [upd_length] at FIN
      clear ho6 hb6 B6 Q1 z0 z1 q0 q1 q2 q3
      go_wp2_with fail
      exact bodyPost_ret (v := .tuple #[.agg #[.slice A6 s.ms.length C6, .slice A2 s.act.length c2], .int .i64 0]) (by simp [results, Try.results22, go_sem, y2, y3]) rfl ⟨_, by rw [E.out], by rw [S2.out]; exact FIN.out.1, FIN.out.2⟩
    · have b3 : (m.q == q) = false := by simpa using h3
      have S2 : Hid (s.set x q = ⟨upd s.ms ⟨m.who, q, min m.df q, m.vis⟩, s.act⟩) := Lib.hid (by unfold Sc.set; rw [if_pos E.out, hf]; exact if_neg h3)
      by_cases h4 : q < m.df
      · have b4 : decide (q < m.df) = true := decide_eq_true h4
        rw [show min m.df q = q by omega] at S2
        have CH := Lib.hid (fun w' hb => change_upd (A2 := A2) (n2 := s.act.length) (c2 := c2) (own_same HH.out.r1 fun k hk => hb.block k (HH.out.r1.lt k hk).2) HS.out hmi q (q) m.vis : ∀ w', Below w.heap.size w w' → _)
        clear hf HE H0 h1 h2 hvi hmi hil hr1 hgl1 hok hne hwx
        go_enter Try.func22, Try.ntmps22
        go_upto_region 1 with fail
        rw [HW.out]
        go_wp2_with fail
        refine (HP.out w1 B1.out).mono ?_
        rintro e w2 ⟨rfl, hb2⟩
        have N0 := Lib.hid ((hb2.block _ (block_lt M0.out)).trans M0.out)
        have N1 := Lib.hid ((hb2.block _ (block_lt M1.out)).trans M1.out)
        have B2 : Hid (Below w.heap.size w w2) := Lib.hid (B1.out.trans (hb2.mono (by rw [HZ.out]; omega)))
        have y0 : w2.cell? ⟨w.heap.size, 0, none⟩ = some (.slice (some ⟨g1, 0, none⟩) s.ms.length c1) := cell_of_block N0.out 0
        have y1 : w2.cell? ⟨w.heap.size, 1, none⟩ = some (.slice A2 s.act.length c2) := cell_of_block N0.out 1
        clear hb2 x0 x1
        have R2 := Lib.hid (range_old HR.out B2.out HGL.out)
        go_upto_region 12 with (refine wpList_load_mid rfl 75 (.tmp 48) rfl g1 (i * 4) rfl [.int .i64 m.who, .int .u64 m.q, .int .u64 m.df, .bool m.vis] _ R2.out Try.underlying75 rfl Y1.out ?_)
        obtain ⟨w5, hw5, hB5, M5, hz5⟩ := one_box w2 #[.int .i64 m.who, .int .u64 q, .int .u64 (q), .bool m.vis] 75
        rw [hw5]
        have B5 : Hid (Below w.heap.size w w5) := Lib.hid (B2.out.trans (hB5.mono B2.out.size))
        have P0 := (hB5.block _ (block_lt N0.out)).trans N0.out
        have P1 := Lib.hid ((hB5.block _ (block_lt N1.out)).trans N1.out)
        have z0 : w5.cell? ⟨w.heap.size, 0, none⟩ = some (.slice (some ⟨g1, 0, none⟩) s.ms.length c1) := cell_of_block P0 0
        have z1 : w5.cell? ⟨w.heap.size, 1, none⟩ = some (.slice A2 s.act.length c2) := cell_of_block P0 1
        have q0 : w5.cell? ⟨w2.heap.size, 0, none⟩ = some (.int .i64 m.who) := cell_of_block M5 0
        have q1 : w5.cell? ⟨w2.heap.size, 1, none⟩ = some (.int .u64 q) := cell_of_block M5 1
        have q2 : w5.cell? ⟨w2.heap.size, 2, none⟩ = some (.int .u64 (q)) := cell_of_block M5 2
        have q3 : w5.cell? ⟨w2.heap.size, 3, none⟩ = some (.bool m.vis) := cell_of_block M5 3
        clear hB5 M5 hz5 P0 hw5 y0 y1
        go_wp2_with fail
        refine (CH.out w5 B5.out).mono ?_
        rintro e w6 ⟨A6, C6, rfl, ho6, hb6⟩
        have B6 : Below w.heap.size w w6 := B5.out.trans (hb6.mono B5.out.size)
        have Q1 := (hb6.block _ (block_lt P1.out)).trans P1.out
        have y2 : w6.cell? ⟨w.heap.size + 1, 0, none⟩ = some (.slice none 0 0) := cell_of_block Q1 0
        have y3 : w6.cell? ⟨w.heap.size + 1, 1, none⟩ = some (.slice none 0 0) := cell_of_block Q1 1
        have f2 := free_of_block Q1 0
        have f3 := free_of_block Q1 1
        have FIN := Lib.hid (fin_core (w := w) (w3 := w6) (b := w.heap.size + 1) (s' := ⟨upd s.ms ⟨m.who, q, q, m.vis⟩, s.act⟩) (G := G) (A1 := A6) (A2 := A2) (c1 := C6) (c2 := c2) B6 Q1 (by omega) (own_base ho6 (Nat.zero_le _))
          (own_same HH.out.r2 fun k hk => B6.block k (HH.out.r2.lt k hk).2)
          (fun k hk => hk.elim (fun hk => .inr (by have h1 := (ho6.lt k hk).1; have := B5.out.size; omega)) (fun hk => .inl (HG.out k (.inr hk)))))
        simp only [upd_length] at FIN
        clear ho6 hb6 B6 Q1 z0 z1 q0 q1 q2 q3
        go_wp2_with fail
        exact bodyPost_ret (v := .tuple #[.agg #[.slice A6 s.ms.length C6, .slice A2 s.act.length c2], .int .i64 0]) (by simp [results, Try.results22, go_sem, y2, y3]) rfl ⟨_, by rw [E.out], by rw [S2.out]; exact FIN.out.1, FIN.out.2⟩
      · have b4 : decide (q < m.df) = false := decide_eq_false h4
        rw [show min m.df q = m.df by omega] at S2
        have CH := Lib.hid (fun w' hb => change_upd (A2 := A2) (n2 := s.act.length) (c2 := c2) (own_same HH.out.r1 fun k hk => hb.block k (HH.out.r1.lt k hk).2) HS.out hmi q (m.df) m.vis : ∀ w', Below w.heap.size w w' → _)
        clear hf HE H0 h1 h2 hvi hmi hil hr1 hgl1 hok hne hwx
        go_enter Try.func22, Try.ntmps22
        go_upto_region 1 with fail
        rw [HW.out]
        go_wp2_with fail
        refine (HP.out w1 B1.out).mono ?_
        rintro e w2 ⟨rfl, hb2⟩
        have N0 := Lib.hid ((hb2.block _ (block_lt M0.out)).trans M0.out)
        have N1 := Lib.hid ((hb2.block _ (block_lt M1.out)).trans M1.out)
        have B2 : Hid (Below w.heap.size w w2) := Lib.hid (B1.out.trans (hb2.mono (by rw [HZ.out]; omega)))
        have y0 : w2.cell? ⟨w.heap.size, 0, none⟩ = some (.slice (some ⟨g1, 0, none⟩) s.ms.length c1) := cell_of_block N0.out 0
        have y1 : w2.cell? ⟨w.heap.size, 1, none⟩ = some (.slice A2 s.act.length c2) := cell_of_block N0.out 1
        clear hb2 x0 x1
        have R2 := Lib.hid (range_old HR.out B2.out HGL.out)
        go_upto_region 12 with (refine wpList_load_mid rfl 75 (.tmp 48) rfl g1 (i * 4) rfl [.int .i64 m.who, .int .u64 m.q, .int .u64 m.df, .bool m.vis] _ R2.out Try.underlying75 rfl Y1.out ?_)
        obtain ⟨w5, hw5, hB5, M5, hz5⟩ := one_box w2 #[.int .i64 m.who, .int .u64 q, .int .u64 (m.df), .bool m.vis] 75
        rw [hw5]
        have B5 : Hid (Below w.heap.size w w5) := Lib.hid (B2.out.trans (hB5.mono B2.out.size))
        have P0 := (hB5.block _ (block_lt N0.out)).trans N0.out
        have P1 := Lib.hid ((hB5.block _ (block_lt N1.out)).trans N1.out)
        have z0 : w5.cell? ⟨w.heap.size, 0, none⟩ = some (.slice (some ⟨g1, 0, none⟩) s.ms.length c1) := cell_of_block P0 0
        have z1 : w5.cell? ⟨w.heap.size, 1, none⟩ = some (.slice A2 s.act.length c2) := cell_of_block P0 1
        have q0 : w5.cell? ⟨w2.heap.size, 0, none⟩ = some (.int .i64 m.who) := cell_of_block M5 0
        have q1 : w5.cell? ⟨w2.heap.size, 1, none⟩ = some (.int .u64 q) := cell_of_block M5 1
        have q2 : w5.cell? ⟨w2.heap.size, 2, none⟩ = some (.int .u64 (m.df)) := cell_of_block M5 2
        have q3 : w5.cell? ⟨w2.heap.size, 3, none⟩ = some (.bool m.vis) := cell_of_block M5 3
        clear hB5 M5 hz5 P0 hw5 y0 y1
        go_wp2_with fail
        refine (CH.out w5 B5.out).mono ?_
        rintro e w6 ⟨A6, C6, rfl, ho6, hb6⟩
        have B6 : Below w.heap.size w w6 := B5.out.trans (hb6.mono B5.out.size)
        have Q1 := (hb6.block _ (block_lt P1.out)).trans P1.out
        have y2 : w6.cell? ⟨w.heap.size + 1, 0, none⟩ = some (.slice none 0 0) := cell_of_block Q1 0
        have y3 : w6.cell? ⟨w.heap.size + 1, 1, none⟩ = some (.slice none 0 0) := cell_of_block Q1 1
        have f2 := free_of_block Q1 0
        have f3 := free_of_block Q1 1
        have FIN := Lib.hid (fin_core (w := w) (w3 := w6) (b := w.heap.size + 1) (s' := ⟨upd s.ms ⟨m.who, q, m.df, m.vis⟩, s.act⟩) (G := G) (A1 := A6) (A2 := A2) (c1 := C6) (c2 := c2) B6 Q1 (by omega) (own_base ho6 (Nat.zero_le _))
          (own_same HH.out.r2 fun k hk => B6.block k (HH.out.r2.lt k hk).2)
          (fun k hk => hk.elim (fun hk => .inr (by have h1 := (ho6.lt k hk).1; have := B5.out.size; omega)) (fun hk => .inl (HG.out k (.inr hk)))))
        simp only [upd_length] at FIN
        clear ho6 hb6 B6 Q1 z0 z1 q0 q1 q2 q3
        go_wp2_with fail
        exact bodyPost_ret (v := .tuple #[.agg #[.slice A6 s.ms.length C6, .slice A2 s.act.length c2], .int .i64 0]) (by simp [results, Try.results22, go_sem, y2, y3]) rfl ⟨_, by rw [E.out], by rw [S2.out]; exact FIN.out.1, FIN.out.2⟩
end Go.Proofs.Ytliepgmjpbjhfaa.Drr
