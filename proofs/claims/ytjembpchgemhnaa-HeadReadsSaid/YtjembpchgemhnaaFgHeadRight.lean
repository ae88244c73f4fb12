/- Contracts of head's right and what it calls. Conditions: none beyond each lemma's own hypotheses. -/
import Derived.Test.YtjembpchgemhnaaFgHeadSum
import Derived.Deep.LoopGhost
set_option linter.unusedVariables false
set_option linter.unusedSimpArgs false
namespace Go.Proofs.Ytjembpchgemhnaa.Head
open Go.RowKit Go.Proofs.Ytjembpchgemhnaa.Fg

def bad (most x : Int) : Bool := decide (x < 0) || decide (most < x)
/-- Whole numbers as values. -/
def iv (l : List Int) : List Value := l.map (Value.int .i64)
def outF (p : Nat) : Value := .func (.func 31) #[] #[.pointer (some ⟨p, 0, none⟩)]

theorem bad_any (most x : Int) (p : Nat) (w : World) (hp : w.cell? ⟨p, 0, none⟩ = some (.int .i64 most)) :
    Calls Try.prog 31 #[.int .i64 x, .pointer (some ⟨p, 0, none⟩)] w fun e w' => e = .returned (.bool (bad most x)) ∧ w' = w := by
  by_cases h0 : x < 0
  · have HB : Hid (bad most x = true) := Lib.hid (by simp [bad, h0])
    go_enter Try.func31, Try.ntmps31
    go_wp2_with fail
    go_ret
    exact ⟨by rw [HB.out]; rfl, rfl⟩
  · by_cases h1 : most < x
    · have HB : Hid (bad most x = true) := Lib.hid (by simp [bad, h1])
      go_enter Try.func31, Try.ntmps31
      go_wp2_with fail
      go_ret
      exact ⟨by rw [HB.out]; rfl, rfl⟩
    · have HB : Hid (bad most x = false) := Lib.hid (by simp [bad]; omega)
      go_enter Try.func31, Try.ntmps31
      go_wp2_with fail
      go_ret
      exact ⟨by rw [HB.out]; rfl, rfl⟩

def IdxPost (most : Int) (l : List Int) (w : World) (e : Ending) (w' : World) : Prop := ∃ r : Int, e = .returned (.int .i64 r) ∧ decide (0 ≤ r) = l.any (bad most) ∧ w' = w ∧ -1 ≤ r ∧ r ≤ l.length

set_option maxRecDepth 100000 in
theorem idx_any (most : Int) (l : List Int) (hn : l.length ≤ 100000) (p g c : Nat) (w : World) (hp : w.cell? ⟨p, 0, none⟩ = some (.int .i64 most)) (hs : ∀ j (h : j < l.length), w.cell? ⟨g, j, none⟩ = some (.int .i64 l[j])) :
    Calls Try.prog 32 #[.slice (some ⟨g, 0, none⟩) l.length c, outF p] w (IdxPost most l w) := by
  have HS := Lib.hid hs
  clear hs
  unfold outF
  go_enter Try.func32, Try.ntmps32
  go_wp2_with fail
  go_loopg [8] l.length (fun k i wr => ∃ j : Nat, j + k = l.length ∧ i = .int .i64 j ∧ (l.take j).any (bad most) = false ∧ wr = w)
  case atStart => exact ⟨0, Nat.zero_add _, rfl, rfl, rfl⟩
  case round =>
    obtain ⟨j, hj, rfl, hb, rfl⟩ := hrel
    by_cases hlt : j < l.length
    · have hc := HS.out j hlt
      have HA : Hid ((l.take (j + 1)).any (bad most) = bad most l[j]) := Lib.hid (by rw [List.take_add_one, List.getElem?_eq_getElem hlt, List.any_append, hb]; simp)
      have HM : Hid (l[j] ∈ l) := Lib.hid (List.getElem_mem hlt)
      clear hb
      generalize l[j] = x at *
      go_wp2_with fail
      refine (bad_any most x p _ hp).mono ?_
      rintro e w' ⟨rfl, rfl⟩
      cases hbx : bad most x
      · rw [hbx] at HA
        clear hbx
        go_wp2_with fail
        go_roundg (gk - 1)
        case measure => omega
        case rel => exact ⟨j + 1, by omega, by go_num, HA.out, rfl⟩
      · have HE : Hid (l.any (bad most) = true) := Lib.hid (List.any_eq_true.2 ⟨x, HM.out, hbx⟩)
        clear hbx
        go_wp2_with fail
        go_ret
        exact ⟨_, rfl, by rw [HE.out]; simp, rfl, by omega, by omega⟩
    · have hjl : j = l.length := by omega
      rw [List.take_of_length_le (by omega)] at hb
      have HB := Lib.hid hb
      clear hb
      go_wp2_with fail
      go_ret
      exact ⟨_, rfl, by rw [HB.out]; simp, rfl, by omega, by omega⟩

theorem contains_any (most : Int) (l : List Int) (hn : l.length ≤ 100000) (p g c : Nat) (w : World) (hp : w.cell? ⟨p, 0, none⟩ = some (.int .i64 most)) (hs : ∀ j (h : j < l.length), w.cell? ⟨g, j, none⟩ = some (.int .i64 l[j])) :
    Calls Try.prog 30 #[.slice (some ⟨g, 0, none⟩) l.length c, outF p] w fun e w' => e = .returned (.bool (l.any (bad most))) ∧ w' = w := by
  have HI := Lib.hid (idx_any most l hn p g c w hp hs)
  clear hs hp
  unfold outF at *
  go_enter Try.func30, Try.ntmps30
  go_wp2_with fail
  refine HI.out.mono ?_
  rintro e w' ⟨r, rfl, hr, rfl, r0, r1⟩
  have HR := Lib.hid hr
  clear hr HI
  go_wp2_with fail
  go_ret
  exact ⟨by rw [← HR.out]; rfl, rfl⟩

theorem within_any (most : Int) (l : List Int) (hn : l.length ≤ 100000) (g c : Nat) (w : World) (hg : g < w.heap.size) (hs : ∀ j (h : j < l.length), w.cell? ⟨g, j, none⟩ = some (.int .i64 l[j])) :
    Calls Try.prog 28 #[.int .i64 most, .slice (some ⟨g, 0, none⟩) l.length c] w fun e w' => e = .returned (.bool (!l.any (bad most))) ∧ w' = w.alloc (.cells #[.int .i64 most] 3) := by
  have HS := Lib.hid hs
  clear hs
  go_enter Try.func28, Try.ntmps28
  go_wp2_with fail
  have hc := contains_any most l hn w.heap.size g c (w.alloc (.cells #[.int .i64 most] 3)) (by simp) (fun j h => by rw [World.cell?_of_block (w := w) (heap_alloc_old _ _ hg)]; exact HS.out j h)
  refine hc.mono ?_
  rintro e w' ⟨rfl, rfl⟩
  clear hc
  go_wp2_with fail
  go_ret
  exact ⟨rfl, rfl⟩
end Go.Proofs.Ytjembpchgemhnaa.Head
