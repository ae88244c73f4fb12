/- Bytes as values; what a walk reads of them. General; no conditions beyond each lemma's own hypotheses. -/
import Derived.Test.YtogkibikghbghaaFgMem
import Derived.Lib.SliceRun
import Derived.Laws.BytesArg
import Derived.Lib.SlBytesConst
import Derived.Lib.SmallJoins
import Derived.Deep.SlicePairs
namespace Go.Proofs.Ytogkibikghbghaa.Fg
open Go.RowKit Go.ChangeShapes Go.WideShapes Go.ChangeAt

/-- Bytes as values. -/
def bv (l : List Int) : List Value := l.map (Value.int .u8)
theorem bv_length (l : List Int) : (bv l).length = l.length := by simp [bv]
theorem bv_one (l : List Int) : ∀ u ∈ bv l, u.oneCell' = true := by
  intro u hu
  obtain ⟨x, _, rfl⟩ := List.mem_map.1 hu
  rfl
theorem bv_append (l m : List Int) : bv (l ++ m) = bv l ++ bv m := by simp [bv]
theorem info_u8 : (Try.prog.info? 5).map (fun i => (i.zero, i.size, i.bytes)) = some (some (.int .u8 0), 1, 1) := by kernel_rfl

/-- string(b): its bytes. -/
theorem str_run (l : List Int) (A : Option Addr) (c : Nat) (w : World) (hs : Src w A l.length c (bv l)) : (convert 37 9 (.slice A l.length c)).run Try.prog w = .ok (.string (strOfNums l)) w := by
  cases A with
  | none =>
    have h0 := hs.nil rfl
    have hl : l = [] := List.eq_nil_of_length_eq_zero h0.1
    subst hl
    exact run_convert_bytes_nil w _ _ Try.underlying37 Try.underlying5 _ _ _ Try.underlying9
  | some ad =>
    have hl : (loadCells ad l.length).run Try.prog w = .ok (l.map (Value.int .u8)).toArray w := by
      have := run_loadCells_list (P := Try.prog) w ad (l.map (Value.int .u8)) (hs.cells ad rfl)
      simpa using this
    rw [run_convert_bytes_string w _ _ _ _ _ c Try.underlying37 Try.underlying5 Try.underlying9, run_bytesToString w _ l.length c l hl, foldl_push_bytes]
    simp [strOfNums, ByteArray.empty, ByteArray.emptyWithCapacity]
    rfl

/-- A constant's bytes as they are laid: a block with a mark behind its end. -/
theorem src_const (w : World) (l : List Int) (fr : Nat × Nat) (hn : l.length ≤ maxLen) : Src (w.alloc (.cells (bv l).toArray 5 fr)) (some ⟨w.heap.size, 0, none⟩) l.length l.length (bv l) := by
  refine ⟨(fun h => by cases h), Nat.le_refl _, hn, fun ad had j u hu => ?_⟩
  injection had with had
  subst had
  rw [Addr.add_lit, Nat.zero_add, cell_of_block (heap_alloc_at w _)]
  simpa using hu

/-- The bytes of a slice that came in. -/
theorem open_bytes {H : Type} {enc : TypeId × Value → H} {w : World} {spare : Nat → Bool} {held : Bool} {fuel : Nat} {v : Value} {y : DataW H × List MemPlace}
    (h : DataW.trod enc Try.prog w 0 spare held fuel 37 [v] = some y) (hw : ∀ n ∈ y.1.weights Try.prog 37, n ≤ reachBytes) :
    ∃ (A : Option Addr) (c : Nat) (l : List Int), v = .slice A l.length c ∧ Src w A l.length c (bv l) ∧ l.length ≤ reachBytes ∧ (∀ x ∈ l, 0 ≤ x ∧ x ≤ 255) := by
  rcases open_ints Try.underlying37 Try.underlying5 (by kernel_rfl) h with ⟨hcs, _⟩ | ⟨a, len, cap, zs, hcs, _, hl, hm, hz, hx, hcell, hwf⟩
  · injection hcs with hcs
    subst hcs
    exact ⟨none, 0, [], rfl, ⟨fun _ => ⟨rfl, rfl⟩, Nat.le_refl _, by simp [maxLen], fun _ h => by cases h⟩, by simp, by simp⟩
  · injection hcs with hcs
    subst hcs
    have hlz : len ≤ zs.length := by rw [hz]; split <;> omega
    have hlen : (zs.take len).length = len := by rw [List.length_take]; omega
    refine ⟨some a, cap, zs.take len, by rw [hlen], ⟨(fun h => by cases h), by omega, hm, fun ad had j u hu => ?_⟩, ?_, ?_⟩
    · injection had with had
      subst had
      have hj : j < (zs.take len).length := by
        have := (List.getElem?_eq_some_iff.1 hu).1
        simpa [bv] using this
      rw [hcell j (by omega)]
      rw [← hu]
      simp only [bv, List.getElem?_map]
      rw [List.getElem?_take_of_lt (by omega), List.getElem?_eq_getElem (by omega), List.getD_eq_getElem?_getD, List.getElem?_eq_getElem (by omega)]
      rfl
    · have hb : Try.prog.bytesOf 5 = 1 := by kernel_rfl
      have hmem : (lits IntKind.u8 (zs.take len) : List (DataW H)).length + (lits IntKind.u8 (zs.drop len) : List (DataW H)).length ≤ reachBytes := by
        refine hw _ ?_
        subst hx
        simp only [DataW.weights, Try.underlying37, hb, Nat.mul_one]
        exact List.mem_cons_self
      simp only [lits, List.length_map] at hmem
      omega
    · intro x hx'
      have := hwf x (List.mem_of_mem_take hx')
      have hmin : IntKind.u8.min = 0 := rfl
      have hmax : IntKind.u8.max = 255 := rfl
      simpa only [Lit.wf, Bool.and_eq_true, decide_eq_true_eq, hmin, hmax] using this
end Go.Proofs.Ytogkibikghbghaa.Fg
