/- Contracts of what the scheduler leans on. Conditions: none beyond each lemma's own hypotheses. -/
import Derived.Test.YtliepgmjpbjhfaaFgDrrMem
set_option linter.unusedVariables false
set_option linter.unusedSimpArgs false
namespace Go.Proofs.Ytliepgmjpbjhfaa.Drr
open Go.RowKit Go.Proofs.Ytliepgmjpbjhfaa.Fg Go.Shelf Go.Maps

theorem add64 (x y : Int) (hx : 0 ≤ x ∧ x < 18446744073709551616) (hy : 0 ≤ y ∧ y < 18446744073709551616) (w : World) :
    (callFunc 41 #[.int .u64 x, .int .u64 y, .int .u64 0]).run Try.prog w = .ok (.value (.tuple #[.int .u64 ((x + y) % 18446744073709551616), .int .u64 ((x + y) / 18446744073709551616)])) w := by
  obtain ⟨a, rfl⟩ := Int.eq_ofNat_of_zero_le hx.1
  obtain ⟨b, rfl⟩ := Int.eq_ofNat_of_zero_le hy.1
  have h := Any7.bits_Add64 layAdd a b 0 (by decide) w
  simp only [Nat.add_zero] at h
  have e1 : (((a + b) % 18446744073709551616 : Nat) : Int) = ((a : Int) + b) % 18446744073709551616 := by omega
  have e2 : (((a + b) / 18446744073709551616 : Nat) : Int) = ((a : Int) + b) / 18446744073709551616 := by omega
  rw [e1, e2] at h
  exact h
theorem satAdd_any (x y : Int) (hx : 0 ≤ x ∧ x < 18446744073709551616) (hy : 0 ≤ y ∧ y < 18446744073709551616) (w : World) :
    Calls Try.prog 29 #[.int .u64 x, .int .u64 y] w fun e w' => e = .returned (.int .u64 (min (x + y) 18446744073709551615)) ∧ w' = w := by
  have A := add64 x y hx hy
  by_cases h : x + y < 18446744073709551616
  · have e1 : (x + y) % 18446744073709551616 = x + y := by omega
    have e2 : (x + y) / 18446744073709551616 = 0 := by omega
    rw [e1, e2] at A
    have HM : Hid (min (x + y) 18446744073709551615 = x + y) := Lib.hid (by omega)
    rw [HM.out]
    clear e1 e2 HM
    go_enter Try.func29, Try.ntmps29
    go_wp2_with fail
    go_ret
    exact ⟨rfl, rfl⟩
  · have e2 : (x + y) / 18446744073709551616 = 1 := by omega
    rw [e2] at A
    have HM : Hid (min (x + y) 18446744073709551615 = 18446744073709551615) := Lib.hid (by omega)
    rw [HM.out]
    clear e2 HM
    go_enter Try.func29, Try.ntmps29
    go_wp2_with fail
    go_ret
    exact ⟨rfl, rfl⟩
theorem contains_any {w : World} {base : Nat} {va : Value} {l : List Int} (h : w.ownsRow base 3 1 va l.length (iv l)) (x : Int) :
    Calls Try.prog 28 #[va, .int .i64 x] w fun e w' => e = .returned (.bool (l.contains x)) ∧ w' = w := by
  obtain ⟨A, c, rfl, h1, h2, h3, h4⟩ := own_form h
  cases A with
  | none =>
    have := (h3 rfl).1
    have hl : l = [] := List.eq_nil_of_length_eq_zero this
    subst hl
    exact Any.slices_Contains_int_empty layContains none c x w
  | some ad =>
    obtain ⟨g, rfl, hg⟩ := h4 ad rfl
    have := Any.slices_Contains_int layContains g 0 l.length c l x w (Nat.le_refl _) (by unfold maxLen at h2; omega) (fun j hj => by
      rw [Nat.zero_add]
      refine hg j _ ?_
      simp [iv, List.getD_eq_getElem?_getD, hj])
    rw [List.take_length] at this
    exact this
theorem clone_any {w : World} {base : Nat} {va : Value} {l : List Int} (h : w.ownsRow base 3 1 va l.length (iv l)) (hl : l.length ≤ 1000000) :
    Calls Try.prog 32 #[va] w fun e w' => ∃ v', e = .returned v' ∧ w'.ownsRow w.heap.size 3 1 v' l.length (iv l) ∧ Below w.heap.size w w' := by
  obtain ⟨A, c, rfl, h1, h2, h3, h4⟩ := own_form h
  cases A with
  | none =>
    have := (h3 rfl).1
    have hl : l = [] := List.eq_nil_of_length_eq_zero this
    subst hl
    refine (Any.slices_Clone_int_nil layClone _ c w).mono ?_
    rintro e w' ⟨rfl, rfl⟩
    exact ⟨_, rfl, World.ownsRow_nil _ _ _ _, Below.refl _ _⟩
  | some ad =>
    obtain ⟨g, rfl, hg⟩ := h4 ad rfl
    refine (Any.slices_Clone_int layClone g 0 l.length c l w (Nat.le_refl _) (by omega) (fun j hj => by
      rw [Nat.zero_add]
      refine hg j _ ?_
      simp [iv, List.getD_eq_getElem?_getD, hj])).mono ?_
    rintro e w' ⟨v', rfl, h5, -, h6⟩
    rw [List.take_length] at h5
    exact ⟨v', rfl, h5, h6⟩
open Go.Sort in
theorem heap_mapBlock_ne (w : World) (blk : Nat) (f : Array Value → Array Value) {k : Nat} (hk : k ≠ blk) : (mapBlock w blk f).heap[k]? = w.heap[k]? := by
  unfold mapBlock
  simp only [Array.getElem?_modify]
  rw [if_neg (fun e => hk e.symm)]
open Go.Sort in
theorem heap_mapBlock_at (w : World) (blk : Nat) (f : Array Value → Array Value) {c : Array Value} {e : TypeId} {fr : Nat × Nat} (h : w.heap[blk]? = some (.cells c e fr)) : (mapBlock w blk f).heap[blk]? = some (.cells (f c) e fr) := by
  unfold mapBlock
  simp only [Array.getElem?_modify]
  simp only [if_true, h]
  rfl
open Go.Sort in
/-- The first one is deleted. -/
theorem delete_any {w : World} {base g c : Nat} {l : List Int} (h : w.ownsRow base 3 1 (.slice (some ⟨g, 0, none⟩) l.length c) l.length (iv l)) (hl : 1 ≤ l.length) :
    Calls Try.prog 42 #[.slice (some ⟨g, 0, none⟩) l.length c, .int .i64 0, .int .i64 1] w fun e w' =>
      e = .returned (.slice (some ⟨g, 0, none⟩) (l.length - 1) c) ∧ w'.ownsRow base 3 1 (.slice (some ⟨g, 0, none⟩) (l.length - 1) c) (l.length - 1) (iv (l.drop 1)) ∧ Keep (fun k => k = g) w w' := by
  obtain ⟨h1, h2⟩ := h
  rcases h2 with ⟨h2, -⟩ | ⟨g', cap, cur, hv, hg, hh, hc, hm, hs, ht⟩
  · cases h2
  injection hv with e1 e2 e3
  injection e1 with e1
  injection e1 with e1
  subst e1 e3
  have hH : Holds (Value.int .i64) w g 0 l.toArray := by
    intro j hj
    have hj' : j < l.length := by simpa using hj
    rw [Nat.zero_add]
    refine ⟨?_, free_of_block hh j⟩
    rw [cell_of_block hh j]
    have e : cur.toList[j]? = (iv l)[j]? := by rw [← ht, List.getElem?_take_of_lt (by omega)]
    rw [← Array.getElem?_toList, e]
    simp [iv, hj', getElem!_pos]
  refine (Any.slices_Delete_int layDelete g 0 c 0 1 l w hH hc (by unfold maxLen at hm; omega) (by decide) hl).mono ?_
  rintro e w' ⟨rfl, q, rfl⟩
  refine ⟨rfl, ⟨by simp [iv], .inr ⟨g, c, putCells (Value.int .i64) 0 (l.take 0 ++ l.drop 1 ++ List.replicate (1 - 0) 0).toArray cur, rfl, hg, ?_, by omega, hm, ?_, ?_⟩⟩, ?_⟩
  · exact heap_mapBlock_at (Sort.ahead w q) g _ hh
  · simp [putCells, hs]
  · apply List.ext_getElem?
    intro k
    have hcs : cur.size = c := by simpa using hs
    by_cases hk : k < l.length - 1
    · rw [List.getElem?_take_of_lt (by omega), Array.getElem?_toList]
      unfold putCells
      rw [Array.getElem?_mapIdx, Array.getElem?_eq_getElem (by omega), Option.map_some, if_pos ⟨Nat.zero_le _, by simp; omega⟩]
      simp [iv, List.getElem?_drop, hk]
      have e : (l.tail ++ [0])[k]? = some (l[k + 1]'(by omega)) := by
        rw [List.getElem?_append_left (by rw [List.length_tail]; omega), List.getElem?_tail, List.getElem?_eq_getElem (by omega)]
      rw [e]
      rfl
    · rw [List.getElem?_eq_none (by rw [List.length_take]; omega), List.getElem?_eq_none (by simp [iv]; omega)]
  · exact ⟨rfl, rfl, rfl, by simp [Sort.ahead], fun k hk hne => heap_mapBlock_ne (Sort.ahead w q) g _ hne⟩
end Go.Proofs.Ytliepgmjpbjhfaa.Drr
