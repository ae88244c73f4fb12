/- The document's scheduler: a list without a number. Conditions: none beyond each lemma's own hypotheses. -/
import Derived.Test.YtliepgmjpbjhfaaFgDrrRef02
set_option linter.unusedVariables false
set_option linter.unusedSimpArgs false
namespace Go.Proofs.Ytliepgmjpbjhfaa.Drr
open Go.RowKit Go.Proofs.Ytliepgmjpbjhfaa.Fg Go.Shelf Go.Maps

def wo (l : List Int) (x : Int) : List Int := l.filter fun y => decide (y ≠ x)
theorem wo_le (l : List Int) (x : Int) : (wo l x).length ≤ l.length := List.length_filter_le _ _
theorem wo_take_eq {l : List Int} {j : Nat} (hj : j < l.length) {x : Int} (h : l[j] = x) : wo (l.take (j + 1)) x = wo (l.take j) x := by
  unfold wo
  rw [List.take_succ_eq_append_getElem hj, List.filter_append]
  simp [h]
theorem wo_take_ne {l : List Int} {j : Nat} (hj : j < l.length) {x : Int} (h : ¬ l[j] = x) : wo (l.take (j + 1)) x = wo (l.take j) x ++ [l[j]] := by
  unfold wo
  rw [List.take_succ_eq_append_getElem hj, List.filter_append]
  simp [h]
set_option maxRecDepth 100000 in
set_option maxHeartbeats 2000000 in
theorem without_any {w : World} {A : Option Addr} {c : Nat} {l : List Int} (h : w.ownsRow 0 3 1 (.slice A l.length c) l.length (iv l)) (hl : l.length ≤ 8) (x : Int) :
    Calls Try.prog 37 #[.slice A l.length c, .int .i64 x] w fun e w' =>
      ∃ A' c', e = .returned (.slice A' (wo l x).length c') ∧ w'.ownsRow w.heap.size 3 1 (.slice A' (wo l x).length c') (wo l x).length (iv (wo l x)) ∧ Below w.heap.size w w' := by
  have HH := Lib.hid h
  obtain ⟨A', c', he, hc1, hc2, -⟩ := own_form h
  injection he with he _ hec
  subst he hec
  unfold maxLen at hc2
  obtain ⟨w1, hw1⟩ : ∃ w1, w.alloc (.cells #[] 3) = w1 := ⟨_, rfl⟩
  have O0 : Hid (w1.ownsRow w.heap.size 3 1 (.slice (some ⟨w.heap.size, 0, none⟩) 0 0) (wo (l.take 0) x).length (iv (wo (l.take 0) x))) := Lib.hid (hw1 ▸ World.ownsRow_made w #[] 0 (Nat.le_refl _) (Nat.zero_le _) rfl)
  have B0 : Hid (Below w.heap.size w w1) := Lib.hid (hw1 ▸ (Below.refl _ _).alloc (Nat.le_refl _) _)
  have HW := Lib.hid hw1
  clear h hw1
  go_enter Try.func37, Try.ntmps37
  go_upto_region 2 with fail
  rw [HW.out]
  clear HW
  go_wp2_with fail
  go_loopg [5, 11] l.length (fun k v i wr => ∃ j : Nat, j + k = l.length ∧ i = .int .i64 j ∧ wr.ownsRow w.heap.size 3 1 v (wo (l.take j) x).length (iv (wo (l.take j) x)) ∧ Below w.heap.size w wr)
  case atStart => exact ⟨0, Nat.zero_add _, rfl, O0.out, B0.out⟩
  case round =>
    obtain ⟨j, hj, rfl, ho, hb⟩ := hrel
    rename_i v _ _
    have BW := Lib.hid hb
    obtain ⟨A5, c5, rfl, -⟩ := own_form ho
    have HO := Lib.hid ho
    clear hb ho
    by_cases hlt : j < l.length
    · obtain ⟨g, cc, he, hc, hg⟩ := own_one_cell HH.out hlt
      injection he with he _ hcc
      subst he hcc
      have cj : wr.cell? ⟨g, j, none⟩ = some (.int .i64 l[j]) := (BW.out.cell (p := ⟨g, j, none⟩) hg).trans hc
      have hjc : (j : Int) < l.length := by omega
      have HE := Lib.hid (fun h => wo_take_eq (x := x) hlt h)
      have HN := Lib.hid (fun h => wo_take_ne (x := x) hlt h)
      have HLT := Lib.hid hlt
      generalize l[j] = y at *
      clear hc hg hlt
      by_cases hx : y = x
      · have hxb : (y == x) = true := by simpa using hx
        have E := Lib.hid (HE.out hx)
        clear hx HE HN
        go_wp2_with fail
        go_roundg (gk - 1)
        case measure => omega
        case rel => exact ⟨j + 1, by omega, by go_num, by rw [E.out]; exact HO.out, BW.out⟩
      · have hxb : (y == x) = false := by simpa using hx
        have E := Lib.hid (HN.out hx)
        have SS := Lib.hid (src_int wr y)
        have HA : Hid ((wr.alloc (.cells #[.int .i64 y] 3)).ownsRow w.heap.size 3 1 (.slice A5 (wo (l.take j) x).length c5) (wo (l.take j) x).length (iv (wo (l.take j) x))) := Lib.hid (own_same HO.out fun k hk => heap_alloc_old wr _ (HO.out.lt k hk).2)
        have HB : Hid (((wo (l.take j) x).length + 1) * 8 ≤ 140737488355328) := Lib.hid (by have := wo_le (l.take j) x; rw [List.length_take] at this; omega)
        have HZ : Hid (w.heap.size ≤ (wr.alloc (.cells #[.int .i64 y] 3)).heap.size) := Lib.hid (by have := BW.out.size; simp; omega)
        clear hx HE HN
        go_wp2_with (at_builtin; refine wpList_append_any rfl (.tmp 18) (.tmp 20) 38 rfl w.heap.size 3 (.int .i64 0) 1 8 Try.underlying38 intInfo rfl (by decide) (by decide) (.slice A5 (wo (l.take j) x).length c5) _ _ rfl HA.out (some ⟨_, 0, none⟩) 1 1 [.int .i64 y] rfl SS.out rfl (by simp [Value.oneCell']) HB.out HZ.out ?_)
        intro v' w2 ho2 hg2 _ _
        have O2 : Hid (w2.ownsRow w.heap.size 3 1 v' (wo (l.take (j + 1)) x).length (iv (wo (l.take (j + 1)) x))) := Lib.hid (by rw [E.out]; simpa [iv] using ho2)
        have B2 : Hid (Below w.heap.size w w2) := Lib.hid ((BW.out.alloc BW.out.size (.cells #[.int .i64 y] 3)).grown hg2 HZ.out (fun k hk => (HO.out.lt k hk).1))
        clear ho2 hg2
        go_wp2_with fail
        go_roundg (gk - 1)
        case measure => omega
        case rel => exact ⟨j + 1, by omega, by go_num, O2.out, B2.out⟩
    · obtain rfl : j = l.length := by omega
      rw [List.take_length] at HO
      go_wp2_with fail
      go_ret
      rw [List.take_length]
      exact ⟨A5, c5, rfl, HO.out, BW.out⟩
end Go.Proofs.Ytliepgmjpbjhfaa.Drr
