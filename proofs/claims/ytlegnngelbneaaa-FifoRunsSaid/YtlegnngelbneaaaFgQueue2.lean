/- Contracts of fifo's Peek, Clear and New. Conditions: none beyond each lemma's own hypotheses. -/
import Derived.Test.YtlegnngelbneaaaFgQueue
namespace Go.Proofs.Ytlegnngelbneaaa.Fifo
open Go.RowKit Go.Proofs.Ytlegnngelbneaaa.Fg

/-- What a Peek leaves, where there is something: a copy in new memory. -/
def PeekedQ (w : World) (l : List Int) (e : Ending) (w' : World) : Prop :=
  ∃ A c, e = .returned (.tuple #[.slice A l.length c, .bool true]) ∧ Below w.heap.size w w' ∧ w'.ownsRow w.heap.size 5 1 (.slice A l.length c) l.length (bv l)
theorem peekq_none {w : World} {g lb cap : Nat} {F : Nat → Prop} (h : IsQ w g lb cap [] F) :
    Calls Try.prog 17 #[.pointer (some ⟨g, 0, none⟩)] w fun e w' => e = .returned (.tuple #[.slice none 0 0, .bool false]) ∧ Below w.heap.size w w' := by
  obtain ⟨at_, arr, h1, -⟩ := h.ex
  have hp := Lib.hid (peek_none g lb cap at_ (tot []) arr w h1)
  have hC := Lib.hid (fun w => clone_any [] none 0 w ⟨fun _ => ⟨rfl, rfl⟩, Nat.le_refl _, by simp [maxLen], fun _ h => by cases h⟩ (by simp))
  clear h h1
  go_enter Try.func17, Try.ntmps17
  go_wp2_with fail
  refine hp.out.mono ?_
  rintro e w' ⟨rfl, rfl⟩
  go_wp2_with fail
  refine (hC.out w).mono ?_
  rintro e w1 ⟨v, rfl, hown, hb, hnil⟩
  obtain rfl : v = .slice none 0 0 := hnil.2 rfl
  clear hnil hown
  go_wp2_with fail
  go_ret2
  exact ⟨rfl, hb⟩
theorem peekq_some {w : World} {g lb cap : Nat} {l : List Int} {ls : List (List Int)} {F : Nat → Prop} (h : IsQ w g lb cap (l :: ls) F) :
    Calls Try.prog 17 #[.pointer (some ⟨g, 0, none⟩)] w (PeekedQ w l) := by
  obtain ⟨at_, arr, h1, h2, h3, h4, h5⟩ := h.ex
  have hlen : (l :: ls).length = ls.length + 1 := rfl
  have hat : at_ < cap := by omega
  obtain ⟨A, c, e1, e2, e3⟩ := h5 0 l rfl
  have e1' : arr[at_]? = some (.slice A l.length c) := by rw [Nat.add_zero, Nat.mod_eq_of_lt hat] at e1; exact e1
  have hp := Lib.hid (peek_some g lb cap at_ _ (tot (l :: ls)) arr w A l.length c h1 (by omega) hat e1')
  have hsrc : Src w A l.length c (bv l) := Src.of_own e2
  have hC := Lib.hid (fun m => clone_any l A c (w.drewN m) (hsrc.same (fun _ _ _ => rfl)) (h.small l (by simp)))
  clear h h1 h2 h3 h4 h5 hlen hat e1 e1' e2 e3 hsrc
  go_enter Try.func17, Try.ntmps17
  go_wp2_with fail
  refine hp.out.mono ?_
  rintro e w' ⟨rfl, m, rfl⟩
  go_wp2_with fail
  refine (hC.out m).mono ?_
  rintro e w1 ⟨v, rfl, hown, hb, hnil⟩
  obtain ⟨A', c', rfl, -⟩ := own_form hown
  have HO := Lib.hid hown
  clear hnil hown
  go_wp2_with fail
  go_ret2
  exact ⟨A', c', rfl, ⟨hb.os, hb.tape, hb.output, hb.size, hb.block⟩, HO.out⟩

theorem hset_cells {b : Nat} {t : TypeId} {fr : Nat × Nat} : ∀ (vs : List Value) (o : Nat) (w : World) (cs : Array Value), w.heap[b]? = some (.cells cs t fr) → ∃ cs' : Array Value, (w.setCells b o vs).heap[b]? = some (.cells cs' t fr) ∧ cs'.size = cs.size
  | [], _, _, cs, h => ⟨cs, h, rfl⟩
  | v :: vs, o, w, cs, h => by
    obtain ⟨cs', h1, h2⟩ := hset_cells vs (o + 1) (w.setCell ⟨b, o, none⟩ v) (cs.setIfInBounds o v) (hset_at w b o v h)
    exact ⟨cs', h1, by simpa using h2⟩
theorem hset_cells_other {b k : Nat} (hk : ¬ k = b) : ∀ (vs : List Value) (o : Nat) (w : World), (w.setCells b o vs).heap[k]? = w.heap[k]?
  | [], _, _ => rfl
  | v :: vs, o, w => (hset_cells_other hk vs (o + 1) (w.setCell ⟨b, o, none⟩ v)).trans (hset_other w _ v hk)
theorem keep_cells {S : Nat → Prop} {a : World} {b : Nat} (hb : S b) : ∀ (vs : List Value) (o : Nat) (w : World), Keep S a w → Keep S a (w.setCells b o vs)
  | [], _, _, h => h
  | v :: vs, o, w, h => keep_cells hb vs (o + 1) (w.setCell ⟨b, o, none⟩ v) (h.setCell _ _ (fun _ => hb))

theorem zero_bytes (w : World) : (zeroValue 27).run Try.prog w = .ok (.slice none 0 0) w := by kernel_rfl
theorem clear_run (w : World) (ty : TypeId) (lb cap : Nat) (arr : Array Value) (h : w.heap[lb]? = some (.cells arr 27 (0, 0))) (hs : arr.size = cap) :
    ∃ w1 : World, (Builtin.clear_ #[26] ty #[.slice (some ⟨lb, 0, none⟩) cap cap]).run Try.prog w = .ok (.tuple #[]) w1 ∧ (∃ arr' : Array Value, w1.heap[lb]? = some (.cells arr' 27 (0, 0)) ∧ arr'.size = cap) ∧ (∀ k, ¬ k = lb → w1.heap[k]? = w.heap[k]?) ∧ Keep (fun k => k = lb) w w1 := by
  rcases Nat.eq_zero_or_pos cap with h0 | h0
  · subst h0
    refine ⟨w, by simp [Builtin.clear_, run_underlying Try.underlying26], ⟨arr, h, hs⟩, fun _ _ => rfl, Keep.refl _ _⟩
  · have hr := Lib.run_clear_slice (P := Try.prog) w 26 27 ty (.slice none 0 0) Try.underlying26 zero_bytes rfl rfl lb 0 cap cap h0
      (fun j hj => by rw [cell_of_block h, Nat.zero_add, Array.getElem?_eq_getElem (by omega)]; rfl) (fun j _ => free_of_block h _)
    obtain ⟨cs', h1, h2⟩ := hset_cells (List.replicate cap (.slice none 0 0)) 0 w arr h
    exact ⟨_, hr, ⟨cs', h1, h2.trans hs⟩, fun k hk => hset_cells_other hk _ _ _, keep_cells (S := fun k => k = lb) rfl _ _ _ (Keep.refl _ _)⟩

/-- What a Clear leaves. -/
def ClearedQ (w : World) (g lb cap n : Nat) (F : Nat → Prop) (e : Ending) (w' : World) : Prop := e = .returned (.int .i64 n) ∧ IsQ w' g lb cap [] F ∧ Keep (fun k => k = g ∨ k = lb) w w'
theorem clearq {w : World} {g lb cap : Nat} {ls : List (List Int)} {F : Nat → Prop} (h : IsQ w g lb cap ls F) :
    Calls Try.prog 13 #[.pointer (some ⟨g, 0, none⟩)] w (ClearedQ w g lb cap ls.length F) := by
  obtain ⟨at_, arr, h1, h2, h3, h4, h5⟩ := h.ex
  have c0 : w.cell? ⟨g, 0, none⟩ = some (.slice (some ⟨lb, 0, none⟩) cap cap) := cell_of_block h1.head 0
  have c2 : w.cell? ⟨g, 2, none⟩ = some (.int .i64 ls.length) := cell_of_block h1.head 2
  obtain ⟨w1, hrun, ⟨arr', a1, a2⟩, hoth, hk1⟩ := clear_run w 0 lb cap arr h1.list h1.size
  have hcl : ∀ ty, (Builtin.clear_ #[26] ty #[.slice (some ⟨lb, 0, none⟩) cap cap]).run Try.prog w = .ok (.tuple #[]) w1 := fun ty => hrun
  have hne := h1.ne
  have hg1 : w1.heap[g]? = some (.cells (qcells lb cap at_ ls.length (tot ls)) 48 (0, 0)) := (hoth g hne).trans h1.head
  have k1 : w1.cell? ⟨g, 1, none⟩ = some (.int .i64 at_) := cell_of_block hg1 1
  have k2 : w1.cell? ⟨g, 2, none⟩ = some (.int .i64 ls.length) := cell_of_block hg1 2
  have k3 : w1.cell? ⟨g, 3, none⟩ = some (.int .i64 (tot ls)) := cell_of_block hg1 3
  have f1 : w1.frozen? ⟨g, 1, none⟩ = false := free_of_block hg1 1
  have f2 : w1.frozen? ⟨g, 2, none⟩ = false := free_of_block hg1 2
  have f3 : w1.frozen? ⟨g, 3, none⟩ = false := free_of_block hg1 3
  have HQ := Lib.hid h
  have H1 := Lib.hid h1
  have H4 := Lib.hid h4
  have HA1 := Lib.hid a1
  have HA2 := Lib.hid a2
  have HG1 := Lib.hid hg1
  have HK := Lib.hid hk1
  clear h h1 h2 h3 h4 h5 hrun hoth a1 a2 hg1 hk1
  go_enter Try.func13, Try.ntmps13
  go_wp2_with (simp only [hcl])
  go_ret
  have h := HQ.out
  have hK := HK.out
  refine ⟨rfl, ⟨⟨0, arr', ?_, by omega, by simp, H4.out, fun i l hl => by simp at hl⟩, h.self, ?_, by simp⟩, ?_⟩
  · refine ⟨?_, ?_, HA2.out, H1.out.most, by omega, by simp⟩
    · refine (hset_at _ g 3 _ (hset_at _ g 2 _ (hset_at _ g 1 _ HG1.out))).trans ?_
      simp [qcells, tot]
    · exact (hset_other _ _ _ (fun e => hne e.symm)).trans ((hset_other _ _ _ (fun e => hne e.symm)).trans ((hset_other _ _ _ (fun e => hne e.symm)).trans HA1.out))
  · intro k hk
    have := h.lt k hk
    have := hK.size
    simp; omega
  · exact (((hK.mono (fun i _ hi => .inr hi)).setCell _ _ (fun _ => .inl rfl)).setCell _ _ (fun _ => .inl rfl)).setCell _ _ (fun _ => .inl rfl)

theorem info_bytes : (Try.prog.info? 27).map (fun i => (i.zero, i.size, i.bytes)) = some (some (.slice none 0 0), 1, 24) := by kernel_rfl
theorem make_run (C : Int) (cap : Nat) (hC : C = cap) (hcap : cap ≤ 64) (u : World) : (Instr.makeSlice 26 (.int .i64 C) (.int .i64 C)).run Try.prog u =
    .ok (.slice (some ⟨u.heap.size, 0, none⟩) cap cap) (u.alloc (.cells (madeCells #[.slice none 0 0] cap) 27)) := by
  obtain ⟨i0, hi, hz0, hz1, hz2⟩ := info_parts info_bytes
  have h := run_make (P := Try.prog) u 26 27 i0 (.slice none 0 0) Try.underlying26 hi hz0 .i64 .i64 C C (by omega) (Int.le_refl _) (by rw [hz2]; omega) (by omega)
  have e : C.toNat = cap := by omega
  rw [e] at h
  simpa [hz1, Value.cells] using h
/-- What New leaves. -/
def NewQ (w : World) (cap : Nat) (e : Ending) (w' : World) : Prop := ∃ g lb F, e = .returned (.pointer (some ⟨g, 0, none⟩)) ∧ IsQ w' g lb cap [] F ∧ Below w.heap.size w w' ∧ ∀ k, F k → w.heap.size ≤ k
theorem new_made (w : World) (cap : Nat) (hcap : cap ≤ 64) : IsQ ((w.alloc (.cells (madeCells #[.slice none 0 0] cap) 27)).alloc (.cells (qcells w.heap.size cap 0 0 0) 48)) (w.heap.size + 1) w.heap.size cap [] (fun k => k = w.heap.size ∨ k = w.heap.size + 1) := by
  refine ⟨⟨0, madeCells #[.slice none 0 0] cap, ⟨?_, ?_, by simp [madeCells], hcap, by omega, by simp⟩, by omega, by simp, .inl rfl, fun i l hl => by simp at hl⟩, .inr rfl, fun k hk => by simp; omega, by simp⟩
  · have := heap_alloc_at (w.alloc (.cells (madeCells #[.slice none 0 0] cap) 27)) (.cells (qcells w.heap.size cap 0 0 0) 48)
    simpa [tot] using this
  · rw [heap_alloc_old _ _ (by simp)]
    exact heap_alloc_at w _
theorem newq (most : Int) (cap : Nat) (w : World) (hc : (cap : Int) = if most < 0 then 0 else if 64 < most then 64 else most) :
    Calls Try.prog 8 #[.int .i64 most] w (NewQ w cap) := by
  have hcap : cap ≤ 64 := by split at hc <;> (try split at hc) <;> omega
  have fin : NewQ w cap (.returned (.pointer (some ⟨w.heap.size + 1, 0, none⟩))) ((w.alloc (.cells (madeCells #[.slice none 0 0] cap) 27)).alloc (.cells (qcells w.heap.size cap 0 0 0) 48)) :=
    ⟨_, _, _, rfl, new_made w cap hcap, ((Below.refl _ _).alloc (Nat.le_refl _) _).alloc (by simp) _, fun k hk => by omega⟩
  have HF := Lib.hid fin
  clear fin
  rcases (show most ≤ 0 ∨ (0 < most ∧ most ≤ 64) ∨ 64 < most by omega) with h | ⟨h, h'⟩ | h
  · have h0 : cap = 0 := by split at hc <;> (try split at hc) <;> omega
    have hmk := make_run 0 cap (by omega) hcap
    clear hc h0 hcap
    have h1 : most ≤ 64 := by omega
    go_enter Try.func8, Try.ntmps8
    go_wp2_with fail
    all_goals
      go_ret
      exact HF.out
  · have h0 : (cap : Int) = most := by split at hc <;> (try split at hc) <;> omega
    have hmk := make_run most cap h0.symm hcap
    clear hc h0 hcap
    go_enter Try.func8, Try.ntmps8
    go_wp2_with fail
    all_goals
      go_ret
      exact HF.out
  · have h0 : cap = 64 := by split at hc <;> (try split at hc) <;> omega
    have hmk := make_run 64 cap (by omega) hcap
    clear hc h0 hcap
    go_enter Try.func8, Try.ntmps8
    go_wp2_with fail
    all_goals
      go_ret
      exact HF.out

end Go.Proofs.Ytlegnngelbneaaa.Fifo
