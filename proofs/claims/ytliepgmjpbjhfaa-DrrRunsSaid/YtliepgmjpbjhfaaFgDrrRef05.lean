/- The document's scheduler: Wake. Conditions: none beyond each lemma's own hypotheses. -/
import Derived.Test.YtliepgmjpbjhfaaFgDrrRef04
set_option linter.unusedVariables false
set_option linter.unusedSimpArgs false
namespace Go.Proofs.Ytliepgmjpbjhfaa.Drr
open Go.RowKit Go.Proofs.Ytliepgmjpbjhfaa.Fg Go.Shelf Go.Maps

theorem own_ne {w : World} {base : Nat} {e : TypeId} {size n : Nat} {v : Value} {xs : List Value} (h : w.ownsRow base e size v n xs) {k b : Nat} (hk : v.ownBlock = some k) {cs : Array Value} {t : TypeId} {fr : Nat × Nat} (hb : w.heap[b]? = some (.cells cs t fr)) (ht : t ≠ e) : k ≠ b :=
  fun e' => ht (own_type h hk (e' ▸ hb))
theorem own_box {w : World} {base : Nat} {e : TypeId} {size n : Nat} {v : Value} {xs : List Value} (h : w.ownsRow base e size v n xs) {b : Nat} {cs : Array Value} {t : TypeId} {fr : Nat × Nat} (hb : w.heap[b]? = some (.cells cs t fr)) (ht : t ≠ e) (o : Nat) (u : Value) :
    (w.setCell ⟨b, o, none⟩ u).ownsRow base e size v n xs := own_same h fun k hk => hset_other _ _ _ (own_ne h hk hb ht)
/-- What a function of the document hands back by its cell. -/
theorem fin_core {w w3 : World} {b : Nat} {cs : Array Value} {A1 A2 : Option Addr} {c1 c2 : Nat} {s' : Sc} {G : Nat → Prop} (hb : Below w.heap.size w w3) (M : w3.heap[b]? = some (.cells cs 48 (0, 0))) (hbb : w.heap.size ≤ b)
    (h1 : w3.ownsRow 0 75 4 (.slice A1 s'.ms.length c1) s'.ms.length (s'.ms.map mrow).flatten) (h2 : w3.ownsRow 0 3 1 (.slice A2 s'.act.length c2) s'.act.length (iv s'.act))
    (hG : ∀ k, ((Value.slice A1 s'.ms.length c1).ownBlock = some k ∨ (Value.slice A2 s'.act.length c2).ownBlock = some k) → G k ∨ w.heap.size ≤ k) :
    IsR ((w3.setCell ⟨b, 0, none⟩ (.slice A1 s'.ms.length c1)).setCell ⟨b, 1, none⟩ (.slice A2 s'.act.length c2)) (.agg #[.slice A1 s'.ms.length c1, .slice A2 s'.act.length c2]) s' (fun k => G k ∨ w.heap.size ≤ k) ∧
      Below w.heap.size w ((w3.setCell ⟨b, 0, none⟩ (.slice A1 s'.ms.length c1)).setCell ⟨b, 1, none⟩ (.slice A2 s'.act.length c2)) := by
  have M2 := hset_at w3 b 0 (.slice A1 s'.ms.length c1) M
  exact ⟨⟨A1, c1, A2, c2, rfl, ⟨own_box (own_box h1 M (by decide) _ _) M2 (by decide) _ _, own_box (own_box h2 M (by decide) _ _) M2 (by decide) _ _⟩, hG⟩, (hb.setCell (p := ⟨b, 0, none⟩) hbb _).setCell (p := ⟨b, 1, none⟩) hbb _⟩
theorem wo_lt : ∀ (l : List Int) (x : Int), ((wo l x).length < l.length ↔ x ∈ l)
  | [], x => by simp [wo]
  | y :: r, x => by
    have ih := wo_lt r x
    have hle := wo_le r x
    unfold wo at ih hle ⊢
    by_cases e : y = x
    · subst e
      simp at hle ⊢
      try omega
    · have e2 : ¬ x = y := fun h => e h.symm
      simp [e, e2] at ih ⊢
      all_goals exact ih
set_option maxRecDepth 100000 in
set_option maxHeartbeats 4000000 in
theorem refwake_any {w : World} {v : Value} {s : Sc} {G : Nat → Prop} (h : IsR w v s G) (hs : s.ok) (x : Int) :
    Calls Try.prog 24 #[v, .int .i64 x] w (RfE w (s.wake x) G (.int .i64 (s.wakeE x))) := by
  obtain ⟨A1, c1, A2, c2, rfl, hr, hG⟩ := h
  have HH := Lib.hid hr
  have HG := Lib.hid hG
  obtain ⟨w1, hw1, hB, h0, h1, hz⟩ := two_boxes w #[.slice A1 s.ms.length c1, .slice A2 s.act.length c2] #[.slice none 0 0, .slice none 0 0] 48 48
  have B1 := Lib.hid hB
  have HW := Lib.hid hw1
  have HZ := Lib.hid hz
  have M0 := Lib.hid h0
  have M1 := Lib.hid h1
  have x0 : w1.cell? ⟨w.heap.size, 0, none⟩ = some (.slice A1 s.ms.length c1) := cell_of_block h0 0
  have x1 : w1.cell? ⟨w.heap.size, 1, none⟩ = some (.slice A2 s.act.length c2) := cell_of_block h0 1
  have few := hs.few_act
  have HP : Hid (∀ w', Below w.heap.size w w' → Calls Try.prog 35 #[.agg #[.slice A1 s.ms.length c1, .slice A2 s.act.length c2], .int .i64 x] w' fun e w2 => e = .returned (.int .i64 (plc s.ms x)) ∧ Below w'.heap.size w' w2) := Lib.hid (fun w' hb =>
      place_any (own_same HH.out.r1 fun k hk => hb.block k (HH.out.r1.lt k hk).2) x)
  clear hw1 hB h0 h1 hz hr hG
  have HF : Hid (∀ w3, Below w.heap.size w w3 → w3.heap[w.heap.size + 1]? = some (.cells #[.slice none 0 0, .slice none 0 0] 48 (0, 0)) → IsR ((w3.setCell ⟨w.heap.size + 1, 0, none⟩ (.slice A1 s.ms.length c1)).setCell ⟨w.heap.size + 1, 1, none⟩ (.slice A2 s.act.length c2)) (.agg #[.slice A1 s.ms.length c1, .slice A2 s.act.length c2]) s (fun k => G k ∨ w.heap.size ≤ k) ∧
      Below w.heap.size w ((w3.setCell ⟨w.heap.size + 1, 0, none⟩ (.slice A1 s.ms.length c1)).setCell ⟨w.heap.size + 1, 1, none⟩ (.slice A2 s.act.length c2))) := Lib.hid (fun w3 hb M =>
    fin_core hb M (by omega) (own_same HH.out.r1 fun k hk => hb.block k (HH.out.r1.lt k hk).2) (own_same HH.out.r2 fun k hk => hb.block k (HH.out.r2.lt k hk).2) (fun k hk => .inl (HG.out k hk)))
  cases hf : fnd s.ms x with
  | none =>
    have E : Hid (s.wake x = s ∧ s.wakeE x = 201) := Lib.hid (by unfold Sc.wake Sc.wakeE; rw [if_pos hf, if_pos hf]; exact ⟨rfl, rfl⟩)
    rw [plc_none hf] at HP
    clear hf
    go_enter Try.func24, Try.ntmps24
    go_upto_region 1 with fail
    rw [HW.out]
    go_wp2_with fail
    refine (HP.out w1 B1.out).mono ?_
    rintro e w2 ⟨rfl, hb2⟩
    have N0 := (hb2.block _ (block_lt M0.out)).trans M0.out
    have N1 := (hb2.block _ (block_lt M1.out)).trans M1.out
    have y0 : w2.cell? ⟨w.heap.size, 0, none⟩ = some (.slice A1 s.ms.length c1) := cell_of_block N0 0
    have y1 : w2.cell? ⟨w.heap.size, 1, none⟩ = some (.slice A2 s.act.length c2) := cell_of_block N0 1
    have y2 : w2.cell? ⟨w.heap.size + 1, 0, none⟩ = some (.slice none 0 0) := cell_of_block N1 0
    have y3 : w2.cell? ⟨w.heap.size + 1, 1, none⟩ = some (.slice none 0 0) := cell_of_block N1 1
    have f2 := free_of_block N1 0
    have f3 := free_of_block N1 1
    have FIN := Lib.hid (HF.out w2 (B1.out.trans (hb2.mono (by rw [HZ.out]; omega))) N1)
    clear hb2 N0 N1 x0 x1
    go_wp2_with fail
    exact bodyPost_ret (v := .tuple #[.agg #[.slice A1 s.ms.length c1, .slice A2 s.act.length c2], .int .i64 201]) (by simp [results, Try.results24, go_sem, y0, y1, y2, y3]) rfl ⟨_, by rw [E.out.2], by rw [E.out.1]; exact FIN.out.1, FIN.out.2⟩
  | some m =>
    obtain ⟨i, hpl, -, -⟩ := plc_some hf
    have hne : ¬ fnd s.ms x = none := by rw [hf]; intro e; cases e
    have E : Hid (s.wakeE x = 0) := Lib.hid (if_neg hne)
    have WI : Hid (s.wake x = if x ∈ s.act then s else ⟨s.ms, s.act ++ [x]⟩) := Lib.hid (if_neg hne)
    have WO : Hid (∀ w', Below w.heap.size w w' → Calls Try.prog 37 #[.slice A2 s.act.length c2, .int .i64 x] w' fun e w2 => ∃ A' c', e = .returned (.slice A' (wo s.act x).length c') ∧ Below w'.heap.size w' w2) := Lib.hid (fun w' hb => by
      refine (without_any (own_same HH.out.r2 fun k hk => hb.block k (HH.out.r2.lt k hk).2) few x).mono ?_
      rintro e w2 ⟨A', c', rfl, -, hb2⟩
      exact ⟨A', c', rfl, hb2⟩)
    have LT := Lib.hid (wo_lt s.act x)
    rw [hpl] at HP
    have hi0 : decide ((i : Int) < 0) = false := decide_eq_false (by omega)
    generalize (wo s.act x).length = n5 at *
    clear hf hne hpl
    go_enter Try.func24, Try.ntmps24
    go_upto_region 1 with fail
    rw [HW.out]
    go_wp2_with fail
    refine (HP.out w1 B1.out).mono ?_
    rintro e w2 ⟨rfl, hb2⟩
    have N0 := (hb2.block _ (block_lt M0.out)).trans M0.out
    have N1 := (hb2.block _ (block_lt M1.out)).trans M1.out
    have B2 : Hid (Below w.heap.size w w2) := Lib.hid (B1.out.trans (hb2.mono (by rw [HZ.out]; omega)))
    have y1 : w2.cell? ⟨w.heap.size, 1, none⟩ = some (.slice A2 s.act.length c2) := cell_of_block N0 1
    have HC : Hid (∀ w5, Below w2.heap.size w2.drew w5 → w5.heap[w.heap.size]? = some (.cells #[.slice A1 s.ms.length c1, .slice A2 s.act.length c2] 48 (0, 0)) ∧ w5.heap[w.heap.size + 1]? = some (.cells #[.slice none 0 0, .slice none 0 0] 48 (0, 0)) ∧ Below w.heap.size w w5) := Lib.hid (fun w5 hb5 => by
      have hb6 : Below w2.heap.size w2 w5 := ⟨hb5.os, hb5.tape, hb5.output, hb5.size, hb5.block⟩
      exact ⟨(hb6.block _ (block_lt N0)).trans N0, (hb6.block _ (block_lt N1)).trans N1, B2.out.trans (hb6.mono B2.out.size)⟩)
    clear hb2 N0 N1 x0 x1
    go_upto_region 3 with fail
    go_region_held3 (fun w' => w'.cell? ⟨w.heap.size, 1, none⟩ = some (.slice A2 s.act.length c2)) (first | exact y1 | exact QS.out)
      ((go_at_call 37; refine (WO.out _ (below_dr B2.out)).mono ?_; rintro e w5 ⟨A5, c5, rfl, hb5⟩; have B5 := HC.out w5 hb5; have P0 := Lib.hid B5.1; have P1 := Lib.hid B5.2.1; have QB := Lib.hid B5.2.2; have QS : Hid (w5.cell? ⟨w.heap.size, 1, none⟩ = some (.slice A2 s.act.length c2)) := Lib.hid (cell_of_block P0.out 1); clear hb5 B5))
    clear y1 HC HP QS WO
    by_cases hm : x ∈ s.act
    · have hd : (n5 : Int) < s.act.length := by have := LT.out.2 hm; omega
      have WI2 := Lib.hid (WI.out.trans (if_pos hm))
      have y0 : w5.cell? ⟨w.heap.size, 0, none⟩ = some (.slice A1 s.ms.length c1) := cell_of_block P0.out 0
      have y1 : w5.cell? ⟨w.heap.size, 1, none⟩ = some (.slice A2 s.act.length c2) := cell_of_block P0.out 1
      have y2 : w5.cell? ⟨w.heap.size + 1, 0, none⟩ = some (.slice none 0 0) := cell_of_block P1.out 0
      have y3 : w5.cell? ⟨w.heap.size + 1, 1, none⟩ = some (.slice none 0 0) := cell_of_block P1.out 1
      have f2 := free_of_block P1.out 0
      have f3 := free_of_block P1.out 1
      have FIN := Lib.hid (HF.out w5 QB.out P1.out)
      clear hm
      go_wp2_with fail
      exact bodyPost_ret (v := .tuple #[.agg #[.slice A1 s.ms.length c1, .slice A2 s.act.length c2], .int .i64 0]) (by simp [results, Try.results24, go_sem, y0, y1, y2, y3]) rfl ⟨_, by rw [E.out], by rw [WI2.out]; exact FIN.out.1, FIN.out.2⟩
    · have hd : ¬ (n5 : Int) < s.act.length := by have := Nat.not_lt.1 (fun h => hm (LT.out.1 h)); omega
      have WI2 := Lib.hid (WI.out.trans (if_neg hm))
      have HZ5 : Hid (w.heap.size + 1 < w5.heap.size) := Lib.hid (block_lt P1.out)
      have x1 : (w5.alloc (.cells #[] 3)).cell? ⟨w.heap.size, 1, none⟩ = some (.slice A2 s.act.length c2) := cell_of_block ((heap_alloc_old _ _ (block_lt P0.out)).trans P0.out) 1
      have HS : Hid (Src (w5.alloc (.cells #[] 3)) A2 s.act.length c2 (iv s.act)) := Lib.hid (Fg.Src.of_own (own_same HH.out.r2 fun k hk => ((heap_alloc_old _ _ (by have := (HH.out.r2.lt k hk).2; have := HZ5.out; omega)).trans (QB.out.block k (HH.out.r2.lt k hk).2))))
      have HL : Hid ((iv s.act).length = s.act.length * 1) := Lib.hid (by simp [iv])
      have H1 : Hid (∀ u ∈ iv s.act, u.oneCell' = true) := Lib.hid (by intro u hu; obtain ⟨y, -, rfl⟩ := List.mem_map.1 hu; rfl)
      have HB : Hid ((0 + s.act.length) * 8 ≤ 140737488355328) := Lib.hid (by omega)
      have HB2 : Hid ((s.act.length + 1) * 8 ≤ 140737488355328) := Lib.hid (by omega)
      have HO : Hid ((w5.alloc (.cells #[] 3)).ownsRow w5.heap.size 3 1 (.slice (some ⟨w5.heap.size, 0, none⟩) 0 0) 0 []) := Lib.hid (World.ownsRow_made w5 #[] 0 (Nat.le_refl _) (Nat.zero_le _) rfl)
      clear hm
      go_wp2_with (at_builtin; refine wpList_append_any rfl (.tmp 21) (.tmp 23) 38 rfl w5.heap.size 3 (.int .i64 0) 1 8 Try.underlying38 intInfo rfl (by decide) (by decide) (.slice (some ⟨w5.heap.size, 0, none⟩) 0 0) 0 [] rfl HO.out A2 s.act.length c2 (iv s.act) rfl HS.out HL.out H1.out HB.out (by simp) ?_)
      intro v7 w7 ho7 hg7 _ _
      try simp only [Nat.zero_add, List.nil_append] at ho7
      have B7 : Hid (Below w5.heap.size w5 w7) := Lib.hid (((Below.refl _ w5).alloc (Nat.le_refl _) (.cells #[] 3)).grown hg7 (by simp) (fun k hk => by injection hk with hk; have hk : w5.heap.size = k := hk; omega))
      have HA : Hid ((w7.alloc (.cells #[.int .i64 x] 3)).ownsRow w5.heap.size 3 1 v7 s.act.length (iv s.act)) := Lib.hid (own_same ho7 fun k hk => heap_alloc_old w7 _ (ho7.lt k hk).2)
      have HO7 := Lib.hid ho7
      have SS := Lib.hid (src_int w7 x)
      have HZ7 : Hid (w5.heap.size ≤ (w7.alloc (.cells #[.int .i64 x] 3)).heap.size) := Lib.hid (by have := B7.out.size; simp; omega)
      clear ho7 hg7
      go_wp2_with (at_builtin; refine wpList_append_any rfl (.tmp 24) (.tmp 26) 38 rfl w5.heap.size 3 (.int .i64 0) 1 8 Try.underlying38 intInfo rfl (by decide) (by decide) v7 s.act.length _ rfl HA.out (some ⟨_, 0, none⟩) 1 1 [.int .i64 x] rfl SS.out rfl (by simp [Value.oneCell']) HB2.out HZ7.out ?_)
      intro v9 w9 ho9 hg9 _ _
      obtain ⟨A9, c9, rfl, -⟩ := own_form ho9
      have B9 : Hid (Below w5.heap.size w5 w9) := Lib.hid ((B7.out.alloc B7.out.size (.cells #[.int .i64 x] 3)).grown hg9 HZ7.out (fun k hk => (HO7.out.lt k hk).1))
      have N0 := (B9.out.block _ (block_lt P0.out)).trans P0.out
      have N1 := (B9.out.block _ (block_lt P1.out)).trans P1.out
      have y0 : w9.cell? ⟨w.heap.size, 0, none⟩ = some (.slice A1 s.ms.length c1) := cell_of_block N0 0
      have y1 : w9.cell? ⟨w.heap.size, 1, none⟩ = some (.slice A2 s.act.length c2) := cell_of_block N0 1
      have y2 : w9.cell? ⟨w.heap.size + 1, 0, none⟩ = some (.slice none 0 0) := cell_of_block N1 0
      have y3 : w9.cell? ⟨w.heap.size + 1, 1, none⟩ = some (.slice none 0 0) := cell_of_block N1 1
      have f1 := free_of_block N0 1
      have f2 := free_of_block N1 0
      have f3 := free_of_block N1 1
      have BB : Below w.heap.size w w9 := QB.out.trans (B9.out.mono QB.out.size)
      have FIN := Lib.hid (fin_core (w := w) (w3 := w9.setCell ⟨w.heap.size, 1, none⟩ (.slice A9 (s.act.length + 1) c9)) (b := w.heap.size + 1) (s' := ⟨s.ms, s.act ++ [x]⟩) (G := G) (A1 := A1) (A2 := A9) (c1 := c1) (c2 := c9) (BB.setCell (p := ⟨w.heap.size, 1, none⟩) (Nat.le_refl _) _)
        ((hset_other _ _ _ (by show w.heap.size + 1 ≠ w.heap.size; omega)).trans N1) (by omega) (own_box (own_same HH.out.r1 fun k hk => BB.block k (HH.out.r1.lt k hk).2) N0 (by decide) _ _)
        (by
          have ho : w9.ownsRow w5.heap.size 3 1 (.slice A9 (s.act ++ [x]).length c9) (s.act ++ [x]).length (iv (s.act ++ [x])) := by simpa [iv] using ho9
          have := own_base (own_box ho N0 (by decide) 1 (.slice A9 (s.act.length + 1) c9)) (Nat.zero_le _)
          exact this)
        (fun k hk => hk.elim (fun hk => .inl (HG.out k (.inl hk))) (fun hk => .inr (by
          have h1 := (ho9.lt k (by simpa [Value.ownBlock] using hk)).1
          have := HZ5.out
          omega))))
      clear ho9 hg9 N0 N1 BB
      simp only [List.length_append, List.length_cons, List.length_nil, Nat.zero_add] at FIN
      go_wp2_with fail
      exact bodyPost_ret (v := .tuple #[.agg #[.slice A1 s.ms.length c1, .slice A9 (s.act.length + 1) c9], .int .i64 0]) (by simp [results, Try.results24, go_sem, y0, y1, y2, y3]) rfl ⟨_, by rw [E.out], by rw [WI2.out]; exact FIN.out.1, FIN.out.2⟩
end Go.Proofs.Ytliepgmjpbjhfaa.Drr
