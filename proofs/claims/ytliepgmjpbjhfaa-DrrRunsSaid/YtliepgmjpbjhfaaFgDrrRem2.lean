/- Contract of Remove. Conditions: none beyond each lemma's own hypotheses. -/
import Derived.Test.YtliepgmjpbjhfaaFgDrrRem1
set_option linter.unusedVariables false
set_option linter.unusedSimpArgs false
namespace Go.Proofs.Ytliepgmjpbjhfaa.Drr
open Go.RowKit Go.Proofs.Ytliepgmjpbjhfaa.Fg Go.Shelf Go.Maps

theorem fnd_mo (ms : List Mb) (x y : Int) : fnd (mo ms x) y = if y = x then none else fnd ms y := by
  by_cases e : y = x
  · rw [if_pos e]
    refine fnd_none.2 fun m hm => ?_
    have := (List.mem_filter.1 hm).2
    rw [e]; simpa using this
  · rw [if_neg e]
    unfold fnd mo
    rw [List.find?_filter]
    congr 1
    funext m
    by_cases e2 : m.who = y
    · have : m.who ≠ x := fun h => e (by rw [← e2, h])
      simp [e2, e]
    · simp [e2]
theorem mo_len : ∀ {ms : List Mb} {x : Int} {m : Mb}, (ms.map Mb.who).Nodup → fnd ms x = some m → (mo ms x).length + 1 = ms.length
  | [], x, m, _, h => by cases h
  | y :: r, x, m, hn, h => by
    simp only [List.map_cons, List.nodup_cons] at hn
    unfold fnd at h
    rw [List.find?_cons] at h
    unfold mo
    rw [List.filter_cons]
    by_cases e : y.who = x
    · have e2 : decide (y.who ≠ x) = false := by simpa using e
      rw [e2]
      simp only [Bool.false_eq_true, if_false, List.length_cons]
      have : r.filter (fun m => decide (m.who ≠ x)) = r := List.filter_eq_self.2 fun z hz => by
        have : z.who ≠ x := fun h2 => hn.1 (by rw [e, ← h2]; exact List.mem_map_of_mem hz)
        simpa using this
      rw [this]
    · have e1 : (y.who == x) = false := by simpa using e
      have e2 : decide (y.who ≠ x) = true := by simpa using e
      rw [e1] at h
      rw [e2]
      simp only [if_true, List.length_cons]
      have := mo_len (ms := r) hn.2 h
      unfold mo at this
      omega
theorem MapIs.rem {D : DataW Unit} {ms : List Mb} {bl : Int → Nat} (h : MapIs D ms bl) (ht : Tidy D) {x : Int} {m : Mb} (hn : (ms.map Mb.who).Nodup) (hx : fnd ms x = some m) : MapIs (D.del (ky x)) (mo ms x) bl := by
  refine ⟨fun y m hy => ?_, fun y hy => ?_, ?_⟩
  · rw [fnd_mo] at hy
    by_cases e : y = x
    · rw [if_pos e] at hy; cases hy
    · rw [if_neg e] at hy
      rw [has_del_other (ky_ne e)]
      exact ⟨(h.one y m hy).1, fun z => by rw [atKey_del_other (ky_ne e)]; exact (h.one y m hy).2 z⟩
  · by_cases e : y = x
    · subst e; exact ⟨has_del_same, fun z => atKey_del_same z⟩
    · rw [fnd_mo, if_neg e] at hy
      rw [has_del_other (ky_ne e)]
      exact ⟨(h.no y hy).1, fun z => by rw [atKey_del_other (ky_ne e)]; exact (h.no y hy).2 z⟩
  · have := size_del (k := ky x) ht
    rw [(h.one x m hx).1] at this
    have h2 := h.size
    have h3 := mo_len hn hx
    simp at this
    omega
set_option maxRecDepth 100000 in
set_option maxHeartbeats 2000000 in
theorem removeSome_any {w : World} {sb : Nat} {s : Sc} {F : Nat → Prop} (h : IsSc w sb s F) (x : Int) (hx : (Lit.int .i64 x).wf = true) {m : Mb} (hf : fnd s.ms x = some m) :
    Calls Try.prog 21 #[.pointer (some ⟨sb, 0, none⟩), .int .i64 x] w fun e w' => e = .returned (.bool true) ∧ Trn w sb (s.remove x) F w' := by
  obtain ⟨mb, D, bl, va, h⟩ := h
  obtain ⟨w1, hw1⟩ : ∃ w1, w.alloc (.cells #[.int .i64 x] 3) = w1 := ⟨_, rfl⟩
  have hB1 : Below w.heap.size w w1 := hw1 ▸ (Below.refl _ _).alloc (Nat.le_refl _) _
  have h1 : IsS w1 sb mb D bl va s F := h.same fun k hk => hB1.block k (h.lt k hk)
  have hab : w1.heap[w.heap.size]? = some (.cells #[.int .i64 x] 3 (0, 0)) := hw1 ▸ heap_alloc_at w _
  have hsz : w.heap.size < w1.heap.size := block_lt hab
  have hd1 : IsS w1.drew sb mb D bl va s F := h1.same fun k hk => rfl
  have hd2 : IsS w1.drew.drew sb mb D bl va s F := h1.same fun k hk => rfl
  have L := ((look hd1 x hx).1 m hf).1
  have hk := keyOf_int_mk (P := Try.prog) Try.underlying3 hx
  obtain ⟨w3, hrun, hmap, hturn⟩ := hd2.map.drop keyed Try.underlying61 hk 0
  have hgr := hturn.grown
  have hb3 : ∀ k, k < w1.heap.size → k ≠ mb → w3.heap[k]? = w1.heap[k]? := fun k hlt hne => hgr.block k hlt (fun e => hne (by injection e))
  have hk3 : Keep F w w3 := (Keep.of_new hB1).trans (((Keep.refl F w1).drew.drew).trans ((keep_grown hgr).mono (T := F) (fun i _ e => by cases e; exact h.fs.2.1)) (fun i _ hi => hi)) (fun i _ hi => hi)
  have ha3 : w3.cell? ⟨w.heap.size, 0, none⟩ = some (.int .i64 x) := (World.cell?_of_block (a := ⟨w.heap.size, 0, none⟩) (hb3 w.heap.size hsz (fun e => by have := h.lt _ h.fs.2.1; omega))).trans (cell_of_block (w := w1) hab 0)
  have hact3 : w3.ownsRow 0 3 1 va s.act.length (iv s.act) := own_same h1.act fun k hk => hb3 k (h1.lt k (h1.actF k hk).1) (h1.actF k hk).2.2.1
  have hhead3 := (hb3 sb (h1.lt _ h1.fs.1) h1.fs.2.2).trans h1.head
  have c30 : w3.cell? ⟨sb, 0, none⟩ = some (.map (some mb)) := cell_of_block hhead3 0
  have c31 : w3.cell? ⟨sb, 1, none⟩ = some va := cell_of_block hhead3 1
  have hs3 : w1.heap.size ≤ w3.heap.size := hgr.size
  have DF : Hid (Calls Try.prog 33 #[va, remF w.heap.size] w3 fun e w4 => ∃ A' n' c', e = .returned (.slice A' n' c') ∧ w4.cell? ⟨sb, 1, none⟩ = some va ∧ w4.frozen? ⟨sb, 1, none⟩ = false ∧ Trn w sb (s.remove x) F (w4.setCell ⟨sb, 1, none⟩ (.slice A' n' c'))) := by
    have key : ∀ va' w4, w4.ownsRow 0 3 1 va' (wo s.act x).length (iv (wo s.act x)) → Keep (fun k => va.ownBlock = some k) w3 w4 → va'.ownBlock = va.ownBlock → w4.cell? ⟨sb, 1, none⟩ = some va ∧ w4.frozen? ⟨sb, 1, none⟩ = false ∧ Trn w sb (s.remove x) F (w4.setCell ⟨sb, 1, none⟩ va') := by
      intro va' w4 ho4 hk4 hvb
      have hn : ∀ k, F k → k < w3.heap.size := fun k hk => Nat.lt_of_lt_of_le (h1.lt k hk) hs3
      have hsbn : va.ownBlock ≠ some sb := fun e => (h.actF _ e).2.1 rfl
      have hh4 := (hk4.block sb (hn _ h.fs.1) hsbn).trans hhead3
      have hb5 : ∀ k, F k → k ≠ sb → k ≠ mb → va.ownBlock ≠ some k → (w4.setCell ⟨sb, 1, none⟩ va').heap[k]? = w1.heap[k]? := fun k hF h1' h2' h3' => (hset_other _ _ _ h1').trans ((hk4.block k (hn k hF) h3').trans (hb3 k (h1.lt k hF) h2'))
      have hmem : ∀ y ∈ mo s.ms x, y ∈ s.ms := fun y hy => (List.mem_filter.1 hy).1
      have K5 : Keep F w (w4.setCell ⟨sb, 1, none⟩ va') := (hk3.trans (hk4.mono (T := F) (fun i _ e => (h.actF i e).1)) (fun i _ hi => hi)).setCell _ _ (fun _ => h.fs.1)
      refine ⟨cell_of_block hh4 1, free_of_block hh4 1, F, ⟨mb, D.del (ky x), bl, va', ?_⟩, K5, fun k hk => .inl hk⟩
      refine ⟨?_, tight (map_same hmap ((hset_other _ _ _ (Ne.symm h.fs.2.2)).trans (hk4.block mb (hn _ h.fs.2.1) (fun e => (h.actF _ e).2.2.1 rfl)))), h.mapIs.rem (h.map.tidy keyed) h.ok.apart hf, fun y hy => ?_, fun y hy z hz => h.inj y (hmem y hy) z (hmem z hz), fun y hy => h.memF y (hmem y hy), ?_, fun k hk => ?_, h.fs, fun k hk => Nat.lt_of_lt_of_le (h.lt k hk) K5.size, Sc.remove_ok h.ok x⟩
      · have := hset_at w4 sb 1 va' hh4
        simpa using this
      · exact (hb5 _ (h.memF y (hmem y hy)).1 (h.memF y (hmem y hy)).2.1 (h.memF y (hmem y hy)).2.2 (fun e => (h.actF _ e).2.2.2 y (hmem y hy) rfl)).trans (h1.mem y (hmem y hy))
      · refine own_same ho4 fun k hk => hset_other _ _ _ (fun e => ?_)
        have e : k = sb := e
        rw [hvb, e] at hk
        exact hsbn hk
      · rw [hvb] at hk
        obtain ⟨a1, a2, a3, a4⟩ := h.actF k hk
        exact ⟨a1, a2, a3, fun y hy => a4 y (hmem y hy)⟩
    refine Lib.hid ?_
    obtain ⟨A, c, hva, -, -, hnil, hadr⟩ := own_form hact3
    cases A with
    | none =>
      have hl := (hnil rfl).1
      have hl2 : s.act = [] := List.eq_nil_of_length_eq_zero hl
      refine (deleteFunc_none hact3 (x := x) (by rw [hl2]; simp) ha3).mono ?_
      rintro e w4 ⟨rfl, rfl⟩
      refine ⟨none, s.act.length, c, by rw [hva], ?_⟩
      have := key va w3 (by rw [hl2] at hact3 ⊢; exact hact3) (Keep.refl _ _) rfl
      rw [hva] at this ⊢
      exact this
    | some ad =>
      obtain ⟨g, rfl, -⟩ := hadr ad rfl
      have hgF := h.actF g (by rw [hva]; rfl)
      rw [hva] at hact3
      have hne : w.heap.size ≠ g := fun e => by have := h.lt g hgF.1; omega
      rw [hva]
      refine (deleteFunc_any hact3 ha3 hne).mono ?_
      rintro e w4 ⟨rfl, ho4, hk4⟩
      refine ⟨_, _, _, rfl, ?_⟩
      have := key _ w4 ho4 (hk4.mono (fun i _ e => by rw [hva]; show some g = some i; rw [e])) (by rw [hva]; rfl)
      rw [hva] at this
      exact this
  have d0 : w1.drew.cell? ⟨sb, 0, none⟩ = some (.map (some mb)) := hd1.cells.1
  have d1 : w1.drew.cell? ⟨w.heap.size, 0, none⟩ = some (.int .i64 x) := cell_of_block (w := w1) hab 0
  have e0 : w1.drew.drew.cell? ⟨sb, 0, none⟩ = some (.map (some mb)) := hd1.cells.1
  have e1 : w1.drew.drew.cell? ⟨w.heap.size, 0, none⟩ = some (.int .i64 x) := cell_of_block (w := w1) hab 0
  have hmf : ∀ (fn : Fn) (first cap : Array Value) (w : World), (Instr.makeFunc fn first cap).run Try.prog w = .ok (.func fn first cap) w := fun _ _ _ _ => rfl
  obtain ⟨A, c, hva, -⟩ := own_form h.act
  subst hva
  unfold remF at DF
  clear h h1 hab hd1 hd2 hmap hturn hgr hk3 hk hB1 hsz hb3 hact3 hhead3 hs3
  go_enter Try.func21, Try.ntmps21
  go_upto_region 1 with fail
  generalize w.heap.size = ab at *
  go_region_held3 (fun w' => w'.cell? ⟨sb, 0, none⟩ = some (.map (some mb)) ∧ w'.cell? ⟨ab, 0, none⟩ = some (.int .i64 x) ∧ (Instr.lookup 61 (.map (some mb)) (.int .i64 x) true).run Try.prog w' = .ok (.tuple #[.pointer (some ⟨bl x, 0, none⟩), .bool true]) w')
    (exact ⟨d0, d1, L⟩) (fail)
  go_upto_region 2 with fail
  go_region_held3 (fun w' => w'.cell? ⟨sb, 0, none⟩ = some (.map (some mb)) ∧ w'.cell? ⟨ab, 0, none⟩ = some (.int .i64 x))
    (first | exact ⟨e0, e1⟩ | exact ⟨c30, ha3⟩) (fail)
  go_wp2_with fail
  refine DF.out.mono ?_
  rintro e w4 ⟨A', n', c', rfl, k1, k2, k3⟩
  have T := Lib.hid k3
  clear k3
  go_wp2_with fail
  go_ret
  exact ⟨rfl, T.out⟩
theorem remove_any {w : World} {sb : Nat} {s : Sc} {F : Nat → Prop} (h : IsSc w sb s F) (x : Int) (hx : (Lit.int .i64 x).wf = true) :
    Calls Try.prog 21 #[.pointer (some ⟨sb, 0, none⟩), .int .i64 x] w fun e w' => e = .returned (.bool (s.removeB x)) ∧ Trn w sb (s.remove x) F w' := by
  cases hf : fnd s.ms x with
  | none =>
    have e1 : s.removeB x = false := by unfold Sc.removeB; rw [hf]; rfl
    have e2 : s.remove x = s := by
      have h1 : mo s.ms x = s.ms := List.filter_eq_self.2 fun z hz => by simpa using fnd_none.1 hf z hz
      have h2 : wo s.act x = s.act := List.filter_eq_self.2 fun z hz => by
        have : z ≠ x := fun e => by
          obtain ⟨m, hm⟩ := h.ok.there z hz
          rw [e, hf] at hm; cases hm
        simpa using this
      unfold Sc.remove
      rw [h1, h2]
    rw [e1, e2]
    exact removeNone_any h x hx hf
  | some m =>
    have e1 : s.removeB x = true := by unfold Sc.removeB; rw [hf]; rfl
    rw [e1]
    exact removeSome_any h x hx hf
end Go.Proofs.Ytliepgmjpbjhfaa.Drr
