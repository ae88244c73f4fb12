/- Contract of Set. Conditions: none beyond each lemma's own hypotheses. -/
import Derived.Test.YtliepgmjpbjhfaaFgDrrMeth3
set_option linter.unusedVariables false
set_option linter.unusedSimpArgs false
namespace Go.Proofs.Ytliepgmjpbjhfaa.Drr
open Go.RowKit Go.Proofs.Ytliepgmjpbjhfaa.Fg Go.Shelf Go.Maps

theorem key_lit (x : Int) : WideAt.IsKeyLit (ky x) := by unfold ky WideAt.IsKeyLit; simp
theorem fnd_app {ms : List Mb} {x : Int} (hf : fnd ms x = none) (m' : Mb) (hx : m'.who = x) (y : Int) : fnd (ms ++ [m']) y = if y = x then some m' else fnd ms y := by
  unfold fnd at hf ⊢
  rw [List.find?_append]
  by_cases e : y = x
  · subst e
    rw [hf, if_pos rfl]
    have : (m'.who == y) = true := by simpa using hx
    simp [List.find?_cons, this]
  · rw [if_neg e]
    have : (m'.who == y) = false := by rw [hx]; simpa using fun h => e h.symm
    simp [List.find?_cons, this]
/-- One more member. -/
theorem IsS.added {w w3 : World} {sb mb n : Nat} {D : DataW Unit} {bl : Int → Nat} {va : Value} {s : Sc} {F : Nat → Prop} (h : IsS w sb mb D bl va s F) {m' : Mb} (hf : fnd s.ms m'.who = none)
    (ho : Sc.ok ⟨s.ms ++ [m'], s.act⟩) (hmap : w3.ownsMap Try.prog 3 rdp mb n (D.put (ky m'.who) (.lit (.int .i64 w.heap.size)))) (hg : (w.alloc (.cells (mcells m') 67)).grownBy w3 (some mb)) :
    Trn w sb ⟨s.ms ++ [m'], s.act⟩ F w3 := by
  have hb : ∀ k, k < w.heap.size → k ≠ mb → w3.heap[k]? = w.heap[k]? := fun k hlt hne => (hg.block k (by simp; omega) (fun e => hne (by injection e))).trans (heap_alloc_old w _ hlt)
  have hp : w3.heap[w.heap.size]? = some (.cells (mcells m') 67 (0, 0)) := (hg.block w.heap.size (by simp) (fun e => by injection e with e; have := h.lt _ h.fs.2.1; omega)).trans (heap_alloc_at w _)
  have hold : ∀ m ∈ s.ms, (if m.who = m'.who then w.heap.size else bl m.who) = bl m.who := fun m hm => if_neg (fnd_none.1 hf m hm)
  have hmem : ∀ m ∈ s.ms ++ [m'], m ∈ s.ms ∨ m = m' := fun m hm => (List.mem_append.1 hm).imp id List.mem_singleton.1
  refine ⟨fun k => F k ∨ k = w.heap.size, ⟨mb, D.put (ky m'.who) (.lit (.int .i64 w.heap.size)), fun y => if y = m'.who then w.heap.size else bl y, va, ?_⟩, ?_, fun k hk => hk.imp id (fun e => by omega)⟩
  · refine ⟨(hb _ (h.lt _ h.fs.1) h.fs.2.2).trans h.head, tight hmap, ⟨fun y m hy => ?_, fun y hy => ?_, ?_⟩, fun m hm => ?_, fun m hm m2 hm2 e => ?_, fun m hm => ?_, own_same h.act (fun k hk => hb k (h.lt _ (h.actF k hk).1) (h.actF k hk).2.2.1), fun k hk => ?_, ⟨.inl h.fs.1, .inl h.fs.2.1, h.fs.2.2⟩, fun k hk => ?_, ho⟩
    · rw [fnd_app hf m' rfl] at hy
      by_cases e : y = m'.who
      · subst e
        rw [if_pos rfl]
        exact ⟨has_put_same h.map.isMap (key_lit _) _, fun z => atKey_put_same h.map.isMap (key_lit _) _ _⟩
      · rw [if_neg e] at hy ⊢
        rw [has_put_other (ky_ne e)]
        refine ⟨(h.mapIs.one y m hy).1, fun z => ?_⟩
        rw [atKey_put_other (ky_ne e)]
        exact (h.mapIs.one y m hy).2 z
    · rw [fnd_app hf m' rfl] at hy
      by_cases e : y = m'.who
      · rw [if_pos e] at hy; cases hy
      · rw [if_neg e] at hy
        rw [has_put_other (ky_ne e)]
        refine ⟨(h.mapIs.no y hy).1, fun z => ?_⟩
        rw [atKey_put_other (ky_ne e)]
        exact (h.mapIs.no y hy).2 z
    · rw [size_put (h.map.tidy keyed), (h.mapIs.no _ hf).1, h.mapIs.size]
      simp
    · rcases hmem m hm with hm | rfl
      · simp only [hold m hm]
        exact (hb _ (h.lt _ (h.memF m hm).1) (h.memF m hm).2.2).trans (h.mem m hm)
      · simp only [if_true]; exact hp
    · rcases hmem m hm with hA | hA <;> rcases hmem m2 hm2 with hB | hB
      · simp only [hold m hA, hold m2 hB] at e
        exact h.inj m hA m2 hB e
      · rw [hB]
        simp only [hold m hA, hB, if_true] at e
        have := h.lt _ (h.memF m hA).1; omega
      · rw [hA]
        simp only [hold m2 hB, hA, if_true] at e
        have := h.lt _ (h.memF m2 hB).1; omega
      · rw [hA, hB]
    · rcases hmem m hm with hm | rfl
      · simp only [hold m hm]
        exact ⟨.inl (h.memF m hm).1, (h.memF m hm).2⟩
      · simp only [if_true]
        exact ⟨.inr trivial, fun e => by have := h.lt _ h.fs.1; omega, fun e => by have := h.lt _ h.fs.2.1; omega⟩
    · obtain ⟨a1, a2, a3, a4⟩ := h.actF k hk
      refine ⟨.inl a1, a2, a3, fun m hm => ?_⟩
      rcases hmem m hm with hm | rfl
      · simp only [hold m hm]; exact a4 m hm
      · simp only [if_true]; intro e; have := h.lt _ a1; omega
    · have hs := hg.size
      simp at hs
      rcases hk with hk | hk
      · have := h.lt k hk; omega
      · omega
  · have k1 : Keep F w (w.alloc (.cells (mcells m') 67)) := (Keep.refl F w).alloc _
    exact k1.trans (keep_grown hg) (fun i hi e => by injection e with e; exact e ▸ h.fs.2.1)

set_option maxRecDepth 100000 in
set_option maxHeartbeats 2000000 in
theorem set_any {w : World} {sb : Nat} {s : Sc} {F : Nat → Prop} (h : IsSc w sb s F) (x q : Int) (hx : (Lit.int .i64 x).wf = true) (hq : 0 ≤ q) :
    Calls Try.prog 10 #[.pointer (some ⟨sb, 0, none⟩), .int .i64 x, .int .u64 q] w fun e w' => e = .returned (.int .i64 (s.setE x q)) ∧ Trn w sb (s.set x q) F w' := by
  have HOK := Lib.hid (Sc.set_ok h.ok hx hq)
  obtain ⟨mb, D, bl, va, h⟩ := h
  obtain ⟨c0, -, -⟩ := h.cells
  have HH := Lib.hid h
  have LN := look_len h
  have HE : ∀ hc : (q = 0 ∨ 281474976710656 < q ∨ (fnd s.ms x = none ∧ 8 ≤ s.ms.length)), Hid (s.setE x q = 201 ∧ Trn w sb (s.set x q) F w) := fun hc => Lib.hid (by
    have e : s.setE x q = 201 := if_pos hc
    refine ⟨e, ?_⟩
    unfold Sc.set
    rw [e, if_neg (by decide)]
    exact Trn.refl ⟨_, _, _, _, h⟩)
  have H0 : ∀ hc : ¬ (q = 0 ∨ 281474976710656 < q ∨ (fnd s.ms x = none ∧ 8 ≤ s.ms.length)), s.setE x q = 0 := fun hc => if_neg hc
  have L := look h x hx
  cases hf : fnd s.ms x with
  | none =>
    have L2 := L.2 hf
    by_cases h1 : q = 0
    · have T := HE (.inl h1)
      have b1 : (q == 0) = true := by simpa using h1
      clear h hf L HE H0 h1
      go_enter Try.func10, Try.ntmps10
      go_wp2_with fail
      go_ret
      exact ⟨by rw [T.out.1]; rfl, T.out.2⟩
    have b1 : (q == 0) = false := by simpa using h1
    by_cases h2 : 281474976710656 < q
    · have T := HE (.inr (.inl h2))
      have b2 : decide (281474976710656 < q) = true := decide_eq_true h2
      clear h hf L HE H0 h1
      go_enter Try.func10, Try.ntmps10
      go_wp2_with fail
      go_ret
      exact ⟨by rw [T.out.1]; rfl, T.out.2⟩
    have b2 : decide (281474976710656 < q) = false := decide_eq_false h2
    by_cases h3 : 8 ≤ s.ms.length
    · have T := HE (.inr (.inr ⟨hf, h3⟩))
      have b3 : decide ((8 : Int) ≤ s.ms.length) = true := decide_eq_true (by omega)
      clear h hf L HE H0 h1 h2
      go_enter Try.func10, Try.ntmps10
      go_wp2_with fail
      go_ret
      exact ⟨by rw [T.out.1]; rfl, T.out.2⟩
    have b3 : decide ((8 : Int) ≤ s.ms.length) = false := decide_eq_false (by omega)
    have E := Lib.hid (H0 (by rintro (hc | hc | hc); exact h1 hc; exact h2 hc; exact h3 hc.2))
    have S2 : Hid (s.set x q = ⟨s.ms ++ [⟨x, q, 0, false⟩], s.act⟩) := Lib.hid (by unfold Sc.set; rw [if_pos E.out, hf])
    have HF := Lib.hid hf
    have HM : Hid ((w.alloc (.cells #[.int .u64 q, .int .u64 0, .bool false] 67)).ownsMap Try.prog 3 rdp mb (Maps.size D) D) := Lib.hid (map_same h.map (heap_alloc_old w _ (h.lt _ h.fs.2.1)))
    have HZ : Hid (Maps.size D < maxLen) := Lib.hid (by rw [h.mapIs.size]; unfold maxLen; omega)
    have HK := Lib.hid (keyOf_int_mk (P := Try.prog) Try.underlying3 hx)
    clear h hf L HE H0 h1 h2 h3
    go_enter Try.func10, Try.ntmps10
    go_wp2_with (at_mapUpdate; refine wpList_mapUpdate_own _ rfl _ _ _ 61 rfl 3 64 keyed Try.underlying61 rdp mb (Maps.size D) D rfl HM.out HZ.out _ _ (ky x) rfl rfl HK.out (.lit (.int .i64 w.heap.size)) [] rfl ?_)
    intro w3 hm3 hg3
    have P3 := Lib.hid (HH.out.added (m' := ⟨x, q, 0, false⟩) HF.out (by rw [← S2.out]; exact HOK.out) hm3 hg3)
    clear hm3 hg3
    go_wp2_with fail
    go_ret
    exact ⟨by rw [E.out]; rfl, by rw [S2.out]; exact P3.out⟩
  | some m =>
    have L2 := (L.1 m hf).1
    have hwx := fnd_who hf
    have hne : ∀ hc : fnd s.ms x = none, False := fun hc => by rw [hf] at hc; cases hc
    obtain ⟨q0, q1, -, qf⟩ := h.mcell hf
    have f0 := qf 0
    have f1 := qf 1
    have hok := h.ok.each m (fnd_mem hf)
    by_cases h1 : q = 0
    · have T := HE (.inl h1)
      have b1 : (q == 0) = true := by simpa using h1
      clear h hf L HE H0 h1 qf
      go_enter Try.func10, Try.ntmps10
      go_wp2_with fail
      go_ret
      exact ⟨by rw [T.out.1]; rfl, T.out.2⟩
    have b1 : (q == 0) = false := by simpa using h1
    by_cases h2 : 281474976710656 < q
    · have T := HE (.inr (.inl h2))
      have b2 : decide (281474976710656 < q) = true := decide_eq_true h2
      clear h hf L HE H0 h1 qf
      go_enter Try.func10, Try.ntmps10
      go_wp2_with fail
      go_ret
      exact ⟨by rw [T.out.1]; rfl, T.out.2⟩
    have b2 : decide (281474976710656 < q) = false := decide_eq_false h2
    have E := Lib.hid (H0 (by rintro (hc | hc | hc); exact h1 hc; exact h2 hc; exact hne hc.1))
    by_cases h3 : m.q = q
    · have b3 : (m.q == q) = true := by simpa using h3
      have S2 : Hid (s.set x q = s) := Lib.hid (by unfold Sc.set; rw [if_pos E.out, hf]; exact if_pos h3)
      clear h hf L HE H0 h1 h2 h3 qf
      go_enter Try.func10, Try.ntmps10
      go_wp2_with fail
      go_ret
      exact ⟨by rw [E.out]; rfl, by rw [S2.out]; exact Trn.refl ⟨_, _, _, _, HH.out⟩⟩
    · have b3 : (m.q == q) = false := by simpa using h3
      have S2 : Hid (s.set x q = ⟨upd s.ms ⟨m.who, q, min m.df q, m.vis⟩, s.act⟩) := Lib.hid (by unfold Sc.set; rw [if_pos E.out, hf]; exact if_neg h3)
      have P3 : Hid (Trn w sb (s.set x q) F ((w.setCell ⟨bl x, 0, none⟩ (.int .u64 q)).setCell ⟨bl x, 1, none⟩ (.int .u64 (min m.df q)))) := Lib.hid (by
        rw [S2.out]
        have hd0 := hok.d0
        have hd1 := hok.d1
        have hmm := h.mem m (fnd_mem hf)
        rw [hwx] at hmm
        have hp := h.put (m := m) (m' := ⟨m.who, q, min m.df q, m.vis⟩) (by rw [hwx]; exact hf) rfl ⟨hok.wf, by show 0 < q; omega, by show q ≤ _; omega, by show 0 ≤ min _ _; omega, by show min _ _ < _; omega⟩
          (w' := (w.setCell ⟨bl x, 0, none⟩ (.int .u64 q)).setCell ⟨bl x, 1, none⟩ (.int .u64 (min m.df q))) (by
            rw [hwx]
            exact hset_at _ (bl x) 1 (.int .u64 (min m.df q)) (hset_at w (bl x) 0 (.int .u64 q) hmm)) (fun k _ hk => by
            rw [hwx] at hk
            exact (hset_other _ _ _ hk).trans (hset_other _ _ _ hk))
        have hF := (h.memF m (fnd_mem hf)).1
        rw [hwx] at hF
        exact ⟨F, ⟨_, _, _, _, hp⟩, (((Keep.refl F w).setCell _ _ (fun _ => hF)).setCell _ _ (fun _ => hF)), fun _ h => .inl h⟩)
      clear h hf L HE H0 h1 h2 h3 qf hok hwx hne
      go_enter Try.func10, Try.ntmps10
      go_wp2_with fail
      go_ret
      exact ⟨by rw [E.out]; rfl, P3.out⟩
end Go.Proofs.Ytliepgmjpbjhfaa.Drr
