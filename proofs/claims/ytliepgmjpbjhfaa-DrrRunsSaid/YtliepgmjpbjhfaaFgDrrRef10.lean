/- The document's scheduler: Remove. Conditions: none beyond each lemma's own hypotheses. -/
import Derived.Test.YtliepgmjpbjhfaaFgDrrRef07
set_option linter.unusedVariables false
set_option linter.unusedSimpArgs false
namespace Go.Proofs.Ytliepgmjpbjhfaa.Drr
open Go.RowKit Go.Proofs.Ytliepgmjpbjhfaa.Fg Go.Shelf Go.Maps

def mo (l : List Mb) (x : Int) : List Mb := l.filter fun m => decide (m.who ≠ x)
theorem mo_le (l : List Mb) (x : Int) : (mo l x).length ≤ l.length := List.length_filter_le _ _
theorem mo_take_eq {l : List Mb} {j : Nat} {m : Mb} (hj : l[j]? = some m) {x : Int} (h : m.who = x) : mo (l.take (j + 1)) x = mo (l.take j) x := by
  obtain ⟨hl, rfl⟩ := List.getElem?_eq_some_iff.1 hj
  unfold mo
  rw [List.take_succ_eq_append_getElem hl, List.filter_append]
  simp [h]
theorem mo_take_ne {l : List Mb} {j : Nat} {m : Mb} (hj : l[j]? = some m) {x : Int} (h : ¬ m.who = x) : mo (l.take (j + 1)) x = mo (l.take j) x ++ [m] := by
  obtain ⟨hl, rfl⟩ := List.getElem?_eq_some_iff.1 hj
  unfold mo
  rw [List.take_succ_eq_append_getElem hl, List.filter_append]
  simp [h]
def Sc.remove (s : Sc) (x : Int) : Sc := ⟨mo s.ms x, wo s.act x⟩
def Sc.removeB (s : Sc) (x : Int) : Bool := (fnd s.ms x).isSome
theorem mo_lt : ∀ (l : List Mb) (x : Int), decide (((mo l x).length : Int) < l.length) = (fnd l x).isSome
  | [], x => by simp [mo, fnd]
  | y :: r, x => by
    have ih := mo_lt r x
    have hle := mo_le r x
    unfold mo fnd at ih ⊢
    unfold mo at hle
    rw [List.find?_cons, List.filter_cons]
    by_cases e : y.who = x
    · have e1 : (y.who == x) = true := by simpa using e
      have e2 : decide (y.who ≠ x) = false := by simpa using e
      rw [e1, e2]
      simp only [Bool.false_eq_true, if_false, Option.isSome_some, decide_eq_true_eq, List.length_cons]
      omega
    · have e1 : (y.who == x) = false := by simpa using e
      have e2 : decide (y.who ≠ x) = true := by simpa using e
      rw [e1, e2]
      simp only [if_true, List.length_cons]
      rw [← ih]
      congr 1
      simp only [eq_iff_iff]
      omega
theorem Sc.remove_ok {s : Sc} (h : s.ok) (x : Int) : (s.remove x).ok := by
  unfold Sc.remove
  refine ⟨?_, fun m hm => h.each m (List.mem_filter.1 hm).1, ?_, ?_, fun y hy => ?_⟩
  · exact h.apart.sublist (List.Sublist.map _ List.filter_sublist)
  · exact Nat.le_trans (mo_le _ _) h.few
  · exact h.nodup.sublist List.filter_sublist
  · have hy := List.mem_filter.1 hy
    obtain ⟨m, hm⟩ := h.there y hy.1
    have hne : y ≠ x := by simpa using hy.2
    refine ⟨m, ?_⟩
    have : fnd (mo s.ms x) m.who = some m := fnd_of_mem (h.apart.sublist (List.Sublist.map _ List.filter_sublist)) (List.mem_filter.2 ⟨fnd_mem hm, by rw [fnd_who hm]; simpa using hne⟩)
    rw [fnd_who hm] at this
    exact this
set_option maxRecDepth 100000 in
set_option maxHeartbeats 4000000 in
theorem refremove_any {w : World} {v : Value} {s : Sc} {G : Nat → Prop} (h : IsR w v s G) (hs : s.ok) (x : Int) :
    Calls Try.prog 23 #[v, .int .i64 x] w (RfE w (s.remove x) G (.bool (s.removeB x))) := by
  obtain ⟨A1, c1, A2, c2, rfl, hr, hG⟩ := h
  have HH := Lib.hid hr
  have few := hs.few
  have few2 := hs.few_act
  obtain ⟨w1, hw1, hB, h0, h1, hz⟩ := two_boxes w #[.slice A1 s.ms.length c1, .slice A2 s.act.length c2] #[.slice none 0 0, .slice none 0 0] 48 48
  have B1 := Lib.hid hB
  have HW := Lib.hid hw1
  have HZ := Lib.hid hz
  obtain ⟨w2, hw2⟩ : ∃ w2, w1.alloc (.cells #[] 75) = w2 := ⟨_, rfl⟩
  have hB2 : Below w1.heap.size w1 w2 := hw2 ▸ (Below.refl _ _).alloc (Nat.le_refl _) _
  have O0 : Hid (w2.ownsRow w1.heap.size 75 4 (.slice (some ⟨w1.heap.size, 0, none⟩) 0 0) (mo (s.ms.take 0) x).length ((mo (s.ms.take 0) x).map mrow).flatten) := Lib.hid (hw2 ▸ World.ownsRow_made w1 #[] 0 (Nat.le_refl _) (Nat.zero_le _) rfl)
  have HW2 := Lib.hid hw2
  have B2 := Lib.hid hB2
  have M0 : Hid (∀ w', Below w1.heap.size w1 w' → w'.heap[w.heap.size]? = some (.cells #[.slice A1 s.ms.length c1, .slice A2 s.act.length c2] 48 (0, 0))) := Lib.hid fun w' hb => (hb.block _ (block_lt h0)).trans h0
  have M1 : Hid (∀ w', Below w1.heap.size w1 w' → w'.heap[w.heap.size + 1]? = some (.cells #[.slice none 0 0, .slice none 0 0] 48 (0, 0))) := Lib.hid fun w' hb => (hb.block _ (block_lt h1)).trans h1
  have BW : Hid (∀ w', Below w1.heap.size w1 w' → Below w.heap.size w w') := Lib.hid fun w' hb => hB.trans (hb.mono (by omega))
  have x0 : w2.cell? ⟨w.heap.size, 0, none⟩ = some (.slice A1 s.ms.length c1) := cell_of_block (M0.out w2 hB2) 0
  clear hw1 hB h0 h1 hz hr hw2 hB2
  go_enter Try.func23, Try.ntmps23
  go_upto_region 1 with fail
  rw [HW.out]
  go_upto_region 2 with fail
  rw [HW2.out]
  clear HW HW2
  go_wp2_with fail
  go_loopg [6, 14] s.ms.length (fun k v i wr => ∃ j : Nat, j + k = s.ms.length ∧ i = .int .i64 j ∧ wr.ownsRow w1.heap.size 75 4 v (mo (s.ms.take j) x).length ((mo (s.ms.take j) x).map mrow).flatten ∧ Below w1.heap.size w1 wr)
  case atStart => exact ⟨0, Nat.zero_add _, rfl, O0.out, B2.out⟩
  case round =>
    obtain ⟨j, hj, rfl, ho, hb⟩ := hrel
    rename_i v _ _
    have BR := Lib.hid hb
    obtain ⟨A5, c5, rfl, -⟩ := own_form ho
    have HO := Lib.hid ho
    clear hb ho x0
    by_cases hlt : j < s.ms.length
    · obtain ⟨m, hm⟩ : ∃ m, s.ms[j]? = some m := ⟨_, List.getElem?_eq_getElem hlt⟩
      obtain ⟨g, rfl, hrg, hgl⟩ := mrow_at HH.out.r1 hm
      have HRG : Hid (wr.rangeAt g (j * 4) [.int .i64 m.who, .int .u64 m.q, .int .u64 m.df, .bool m.vis]) := Lib.hid (fun i v hv => ((BW.out wr BR.out).cell (p := ⟨g, j * 4 + i, none⟩) hgl).trans (hrg i v hv))
      have Y1 : Hid ((Try.prog.info? 75).map (·.size) = some ([.int .i64 m.who, .int .u64 m.q, .int .u64 m.df, .bool m.vis] : List Value).length) := Lib.hid memSize
      obtain ⟨w3, hw3, hb3, h3, hz3⟩ := one_box wr #[.int .i64 m.who, .int .u64 m.q, .int .u64 m.df, .bool m.vis] 75
      have HW3 := Lib.hid hw3
      have B3 : Hid (Below w1.heap.size w1 w3) := Lib.hid (BR.out.trans (hb3.mono BR.out.size))
      have HO3 : Hid (w3.ownsRow w1.heap.size 75 4 (.slice A5 (mo (s.ms.take j) x).length c5) (mo (s.ms.take j) x).length ((mo (s.ms.take j) x).map mrow).flatten) := Lib.hid (own_same HO.out fun k hk => hb3.block k (HO.out.lt k hk).2)
      have HEq := Lib.hid (fun h => mo_take_eq (x := x) hm h)
      have HNe := Lib.hid (fun h => mo_take_ne (x := x) hm h)
      have y0 : w3.cell? ⟨wr.heap.size, 0, none⟩ = some (.int .i64 m.who) := cell_of_block h3 0
      have y1 : w3.cell? ⟨wr.heap.size, 1, none⟩ = some (.int .u64 m.q) := cell_of_block h3 1
      have y2 : w3.cell? ⟨wr.heap.size, 2, none⟩ = some (.int .u64 m.df) := cell_of_block h3 2
      have y3 : w3.cell? ⟨wr.heap.size, 3, none⟩ = some (.bool m.vis) := cell_of_block h3 3
      have hjc : (j : Int) < s.ms.length := by omega
      clear hrg hm hlt hw3 hb3 h3 hz3
      by_cases hx : m.who = x
      · have hxb : (m.who == x) = true := by simpa using hx
        have E := Lib.hid (HEq.out hx)
        clear hx HEq HNe
        go_upto_region 5 with (refine wpList_load_mid rfl 75 (.tmp 16) rfl g (j * 4) rfl [.int .i64 m.who, .int .u64 m.q, .int .u64 m.df, .bool m.vis] _ HRG.out Try.underlying75 rfl Y1.out ?_)
        rw [HW3.out]
        go_wp2_with fail
        go_roundg (gk - 1)
        case measure => omega
        case rel => exact ⟨j + 1, by omega, by go_num, by rw [E.out]; exact HO3.out, B3.out⟩
      · have hxb : (m.who == x) = false := by simpa using hx
        have E := Lib.hid (HNe.out hx)
        have SS := Lib.hid (src_rows w3 [.int .i64 m.who, .int .u64 m.q, .int .u64 m.df, .bool m.vis] 75 1 (by decide))
        have HA : Hid ((w3.alloc (.cells #[.int .i64 m.who, .int .u64 m.q, .int .u64 m.df, .bool m.vis] 75)).ownsRow w1.heap.size 75 4 (.slice A5 (mo (s.ms.take j) x).length c5) (mo (s.ms.take j) x).length ((mo (s.ms.take j) x).map mrow).flatten) := Lib.hid (own_same HO3.out fun k hk => heap_alloc_old w3 _ (HO3.out.lt k hk).2)
        have HB : Hid (((mo (s.ms.take j) x).length + 1) * 32 ≤ 140737488355328) := Lib.hid (by have := mo_le (s.ms.take j) x; rw [List.length_take] at this; omega)
        have HZ2 : Hid (w1.heap.size ≤ (w3.alloc (.cells #[.int .i64 m.who, .int .u64 m.q, .int .u64 m.df, .bool m.vis] 75)).heap.size) := Lib.hid (by have := B3.out.size; simp; omega)
        clear hx HEq HNe
        go_upto_region 5 with (refine wpList_load_mid rfl 75 (.tmp 16) rfl g (j * 4) rfl [.int .i64 m.who, .int .u64 m.q, .int .u64 m.df, .bool m.vis] _ HRG.out Try.underlying75 rfl Y1.out ?_)
        rw [HW3.out]
        go_wp2_with (first
          | refine wpList_slice_one rfl 46 75 (.tmp 23) rfl 4 (.agg #[.int .i64 0, .int .u64 0, .int .u64 0, .bool false]) (.agg #[.int .i64 m.who, .int .u64 m.q, .int .u64 m.df, .bool m.vis]) rfl Try.underlying46 memInfo2 (by decide) (by decide) rfl ?_
          | (at_builtin; refine wpList_append_any rfl (.tmp 22) (.tmp 24) 46 rfl w1.heap.size 75 (.agg #[.int .i64 0, .int .u64 0, .int .u64 0, .bool false]) 4 32 Try.underlying46 memInfo rfl (by decide) (by decide) (.slice A5 (mo (s.ms.take j) x).length c5) _ _ rfl HA.out (some ⟨_, 0, none⟩) 1 1 [.int .i64 m.who, .int .u64 m.q, .int .u64 m.df, .bool m.vis] rfl SS.out rfl (by simp [Value.oneCell']) HB.out HZ2.out ?_))
        intro v' w4 ho4 hg4 _ _
        have O4 : Hid (w4.ownsRow w1.heap.size 75 4 v' (mo (s.ms.take (j + 1)) x).length ((mo (s.ms.take (j + 1)) x).map mrow).flatten) := Lib.hid (by rw [E.out]; simpa [mrow] using ho4)
        have B4 : Hid (Below w1.heap.size w1 w4) := Lib.hid ((B3.out.alloc B3.out.size (.cells #[.int .i64 m.who, .int .u64 m.q, .int .u64 m.df, .bool m.vis] 75)).grown hg4 HZ2.out (fun k hk => (HO3.out.lt k hk).1))
        clear ho4 hg4
        go_wp2_with fail
        go_roundg (gk - 1)
        case measure => omega
        case rel => exact ⟨j + 1, by omega, by go_num, O4.out, B4.out⟩
    · obtain rfl : j = s.ms.length := by omega
      rw [List.take_length] at HO
      have y0 : wr.cell? ⟨w.heap.size, 0, none⟩ = some (.slice A1 s.ms.length c1) := cell_of_block (M0.out wr BR.out) 0
      have y1 : wr.cell? ⟨w.heap.size, 1, none⟩ = some (.slice A2 s.act.length c2) := cell_of_block (M0.out wr BR.out) 1
      have WO := Lib.hid (without_any (own_same HH.out.r2 fun k hk => (BW.out wr BR.out).block k (HH.out.r2.lt k hk).2) few2 x)
      have LT := Lib.hid (mo_lt s.ms x)
      have MR := Lib.hid (show s.remove x = ⟨mo s.ms x, wo s.act x⟩ from rfl)
      have FR : Hid (∀ w3 A9 C9, Below w1.heap.size w1 w3 → w3.ownsRow 0 75 4 (.slice A5 (mo s.ms x).length c5) (mo s.ms x).length ((mo s.ms x).map mrow).flatten → w3.ownsRow wr.heap.size 3 1 (.slice A9 (wo s.act x).length C9) (wo s.act x).length (iv (wo s.act x)) →
          IsR ((w3.setCell ⟨w.heap.size + 1, 0, none⟩ (.slice A5 (mo s.ms x).length c5)).setCell ⟨w.heap.size + 1, 1, none⟩ (.slice A9 (wo s.act x).length C9)) (.agg #[.slice A5 (mo s.ms x).length c5, .slice A9 (wo s.act x).length C9]) (s.remove x) (fun k => G k ∨ w.heap.size ≤ k) ∧ Below w.heap.size w ((w3.setCell ⟨w.heap.size + 1, 0, none⟩ (.slice A5 (mo s.ms x).length c5)).setCell ⟨w.heap.size + 1, 1, none⟩ (.slice A9 (wo s.act x).length C9))) := Lib.hid (fun w3 A9 C9 hb h1 h2 =>
        fin_core (s' := s.remove x) (BW.out w3 hb) (M1.out w3 hb) (by omega) h1 (own_base h2 (Nat.zero_le _)) (fun k hk => .inr (hk.elim (fun hk => by have := (HO.out.lt k hk).1; have := HZ.out; omega) (fun hk => by have := (h2.lt k hk).1; have := BR.out.size; have := HZ.out; omega))))
      have MN := Lib.hid (show (mo (s.ms.take s.ms.length) x).length = (mo s.ms x).length by rw [List.take_length])
      rw [MN.out]
      go_wp2_with fail
      refine WO.out.mono ?_
      rintro e w5 ⟨A9, C9, rfl, ho9, hb9⟩
      have B5 : Below w1.heap.size w1 w5 := BR.out.trans (hb9.mono BR.out.size)
      have z2 : w5.cell? ⟨w.heap.size + 1, 0, none⟩ = some (.slice none 0 0) := cell_of_block (M1.out w5 B5) 0
      have z3 : w5.cell? ⟨w.heap.size + 1, 1, none⟩ = some (.slice none 0 0) := cell_of_block (M1.out w5 B5) 1
      have f2 := free_of_block (M1.out w5 B5) 0
      have f3 := free_of_block (M1.out w5 B5) 1
      have FIN := Lib.hid (FR.out w5 A9 C9 B5 (own_same (own_base HO.out (Nat.zero_le _)) fun k hk => hb9.block k (HO.out.lt k hk).2) ho9)
      generalize (wo s.act x).length = n2 at *
      clear ho9 hb9 B5 y0 y1
      go_wp2_with fail
      exact bodyPost_ret (v := .tuple #[.agg #[.slice A5 (mo s.ms x).length c5, .slice A9 n2 C9], .bool (decide (((mo s.ms x).length : Int) < s.ms.length))]) (by simp [results, Try.results23, go_sem, z2, z3]) rfl ⟨_, by rw [LT.out]; rfl, FIN.out.1, FIN.out.2⟩
end Go.Proofs.Ytliepgmjpbjhfaa.Drr
