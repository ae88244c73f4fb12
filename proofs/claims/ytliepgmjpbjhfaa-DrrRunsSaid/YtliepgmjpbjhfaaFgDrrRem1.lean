/- Contract of Remove for one that is a member. Conditions: none beyond each lemma's own hypotheses. -/
import Derived.Test.YtliepgmjpbjhfaaFgDrrRem0
import Derived.Test.YtliepgmjpbjhfaaFgDrrRef10
import Derived.Shelf.SlicesE.DeleteFunc
set_option linter.unusedVariables false
set_option linter.unusedSimpArgs false
namespace Go.Proofs.Ytliepgmjpbjhfaa.Drr
open Go.RowKit Go.Proofs.Ytliepgmjpbjhfaa.Fg Go.Shelf Go.Maps

def rhoD : Ren := ⟨fun | 6 => 43 | 10 => 33 | _ => 0,
  fun | 0 => 0 | 3 => 3 | 4 => 4 | 22 => 38 | 23 => 3 | 25 => 44 | _ => 0, fun x => x⟩
set_option maxRecDepth 100000 in
theorem layDelF : SlLaysH.n10 Try.prog rhoD where
  mixed := by kernel_rfl
  f6 := ⟨"slices.IndexFunc[[]int,int]", by decide, by kernel_rfl⟩
  f10 := ⟨"slices.DeleteFunc[[]int,int]", by decide, by kernel_rfl⟩
  t0 := by kernel_rfl
  a0 := fun w => by kernel_rfl
  z0 := fun w => by kernel_rfl
  v0 := fun w => by kernel_rfl
  t3 := by kernel_rfl
  a3 := fun w => by kernel_rfl
  z3 := fun w => by kernel_rfl
  v3 := fun w => by kernel_rfl
  t4 := by kernel_rfl
  a4 := fun w => by kernel_rfl
  z4 := fun w => by kernel_rfl
  v4 := fun w => by kernel_rfl
  t22 := by kernel_rfl
  a22 := fun w => by kernel_rfl
  z22 := fun w => by kernel_rfl
  v22 := fun w => by kernel_rfl
  a23 := fun w => by kernel_rfl
  z23 := fun w => by kernel_rfl
  t25 := by kernel_rfl
  a25 := fun w => by kernel_rfl
  z25 := fun w => by kernel_rfl
  v25 := fun w => by kernel_rfl
open Go.Sort in
/-- A row is written anew, with zeros behind. -/
theorem put_own {w : World} {base g c q : Nat} {l m : List Int} (h : w.ownsRow base 3 1 (.slice (some ⟨g, 0, none⟩) l.length c) l.length (iv l)) (hm : m.length ≤ l.length) :
    (putRow (Value.int .i64) (Sort.ahead w q) g 0 (m ++ List.replicate (l.length - m.length) 0).toArray).ownsRow base 3 1 (.slice (some ⟨g, 0, none⟩) m.length c) m.length (iv m) ∧
      Keep (fun k => k = g) w (putRow (Value.int .i64) (Sort.ahead w q) g 0 (m ++ List.replicate (l.length - m.length) 0).toArray) := by
  obtain ⟨h1, h2⟩ := h
  rcases h2 with ⟨h2, -⟩ | ⟨g', cap, cur, hv, hg, hh, hc, hmx, hs, ht⟩
  · cases h2
  injection hv with e1 e2 e3
  injection e1 with e1
  injection e1 with e1
  subst e1 e3
  refine ⟨⟨by simp [iv], .inr ⟨g, c, putCells (Value.int .i64) 0 (m ++ List.replicate (l.length - m.length) 0).toArray cur, rfl, hg, ?_, by omega, hmx, ?_, ?_⟩⟩, ?_⟩
  · exact heap_mapBlock_at (Sort.ahead w q) g _ hh
  · simp [putCells, hs]
  · apply List.ext_getElem?
    intro k
    have hcs : cur.size = c := by simpa using hs
    by_cases hk : k < m.length
    · rw [List.getElem?_take_of_lt (by omega), Array.getElem?_toList]
      unfold putCells
      rw [Array.getElem?_mapIdx, Array.getElem?_eq_getElem (by omega), Option.map_some, if_pos ⟨Nat.zero_le _, by simp; omega⟩]
      simp [iv, hk, List.getElem?_append_left hk]
    · rw [List.getElem?_eq_none (by rw [List.length_take]; omega), List.getElem?_eq_none (by simp [iv]; omega)]
  · exact ⟨rfl, rfl, rfl, by simp [putRow, mapBlock, Sort.ahead], fun k hk hne => heap_mapBlock_ne (Sort.ahead w q) g _ hne⟩
open Go.Sort in
theorem deleteFunc_any {w : World} {base g c b : Nat} {l : List Int} {x : Int} (h : w.ownsRow base 3 1 (.slice (some ⟨g, 0, none⟩) l.length c) l.length (iv l)) (hb : w.cell? ⟨b, 0, none⟩ = some (.int .i64 x)) (hbg : b ≠ g) :
    Calls Try.prog 33 #[.slice (some ⟨g, 0, none⟩) l.length c, remF b] w fun e w' =>
      e = .returned (.slice (some ⟨g, 0, none⟩) (wo l x).length c) ∧ w'.ownsRow base 3 1 (.slice (some ⟨g, 0, none⟩) (wo l x).length c) (wo l x).length (iv (wo l x)) ∧ Keep (fun k => k = g) w w' := by
  have hent := fun (args : Array Value) (w : World) => enters (P := Try.prog) Try.func34 (by decide) rfl args w
  have hbl : b < w.heap.size := World.block_lt_of_cell? w _ hb
  have hf : (l.filter fun y => !(y == x)) = wo l x := by unfold wo; congr 1; funext y; by_cases e : y = x <;> simp [e]
  have h0 := h
  obtain ⟨h1, h2⟩ := h
  rcases h2 with ⟨h2, -⟩ | ⟨g', cap, cur, hv, hg, hh, hc, hm, hs, ht⟩
  · cases h2
  injection hv with e1 e2 e3
  injection e1 with e1
  injection e1 with e1
  subst e1 e3
  have hH : Holds (Value.int .i64) w g 0 l.toArray := by
    intro j hj
    have hj' : j < l.length := by simpa using hj
    rw [Nat.zero_add]
    refine ⟨?_, free_of_block hh j⟩
    rw [cell_of_block hh j]
    have e : cur.toList[j]? = (iv l)[j]? := by rw [← ht, List.getElem?_take_of_lt (by omega)]
    rw [← Array.getElem?_toList, e]
    simp [iv, hj', getElem!_pos]
  have hcell : ∀ W : World, W.cell? ⟨b, 0, none⟩ = some (.int .i64 x) → ∀ y, FnGives Try.prog 34 #[.pointer (some ⟨b, 0, none⟩)] #[Value.int .i64 y] (.bool (y == x)) W := fun W hW y =>
    (rem1_any x y b W hW).mono (by rintro e w' ⟨rfl, rfl⟩; exact ⟨rfl, 0, rfl⟩)
  refine (AnyE.slices_DeleteFunc layDelF (Value.int .i64) (fun _ => rfl) (fun y => y == x) 34 #[.pointer (some ⟨b, 0, none⟩)] hent 0 (fun w => by kernel_rfl) g 0 c l.toArray w
    (fun W y hB => hcell W ((hB.cell (p := ⟨b, 0, none⟩) hbl).trans hb) y)
    (fun n os dk y hdk => hcell _ (by
      have hs1 : b < (Sort.ahead w n).heap.size := hbl
      unfold sortWorld
      refine (World.cell?_of_block (a := ⟨b, 0, none⟩) ((Sort.heap_grow_old _ os (by show b < (putRow _ (Sort.ahead w n) g 0 dk).heap.size; simpa [putRow, mapBlock] using hs1)).trans (heap_mapBlock_ne (Sort.ahead w n) g _ hbg))).trans hb) y)
    hH (by unfold maxLen at hm; simp; omega) (by simpa using hc)).mono ?_
  rintro e w' ⟨he, q, rfl⟩
  simp only [hf] at he ⊢
  obtain ⟨p1, p2⟩ := put_own (q := q) h0 (wo_le l x)
  exact ⟨he, by simpa using p1, by simpa using p2⟩
end Go.Proofs.Ytliepgmjpbjhfaa.Drr
