/- Contract of floodgateref07's New. Conditions: none beyond each lemma's own hypotheses. -/
import Derived.Test.YtndcgofjhlndgaaFgDiskRef5
set_option linter.unusedVariables false
set_option linter.unusedSimpArgs false
namespace Go.Proofs.Ytndcgofjhlndgaa.Disk
open Go.RowKit Go.Proofs.Ytndcgofjhlndgaa.Fg

theorem secInfo2 : (Try.prog.info? 25).map (fun i => (i.zero, i.size)) = some (some (.agg (bv noSec).toArray), 64) := by kernel_rfl
def RnRel (w : World) (j : Nat) (w' : World) : Prop := Below w.heap.size w w' ∧ w'.heap[w.heap.size]? = some (.cells #[.slice none 0 0, .slice none 0 0, .bool false, .int .i64 0, .bool false] 41) ∧
  ∃ A c, w'.heap[w.heap.size + 1]? = some (.cells #[.slice A j c, .slice none 0 0, .bool false, .int .i64 0, .bool false] 41) ∧ w'.ownsRow w.heap.size 25 64 (.slice A j c) j (sv (List.replicate j noSec)).flatten
set_option maxRecDepth 100000 in
set_option maxHeartbeats 1000000 in
theorem refnew_any (sectors : Int) (n : Nat) (w : World) (hc : (n : Int) = if sectors < 0 then 0 else if 512 < sectors then 512 else sectors) (G : Nat → Prop) :
    Calls Try.prog 16 #[.int .i64 sectors] w (RefD w (Dk.new n) G) := by
  have hn : n ≤ 512 := by split at hc <;> (try split at hc) <;> omega
  have hlt : ∀ j : Nat, j < n → (j : Int) < sectors ∧ (j : Int) < 512 := fun j hj => by split at hc <;> (try split at hc) <;> omega
  have hend : ¬ (n : Int) < sectors ∨ ((n : Int) < sectors ∧ ¬ (n : Int) < 512) := by split at hc <;> (try split at hc) <;> omega
  have HLT := Lib.hid hlt
  have HEND := Lib.hid hend
  have start : RnRel w 0 ((w.alloc (.cells #[.slice none 0 0, .slice none 0 0, .bool false, .int .i64 0, .bool false] 41)).alloc (.cells #[.slice none 0 0, .slice none 0 0, .bool false, .int .i64 0, .bool false] 41)) := ⟨((Below.refl _ _).alloc (Nat.le_refl _) _).alloc (by simp) _, (heap_alloc_old _ _ (by simp)).trans (heap_alloc_at w _), none, 0, by
    have := heap_alloc_at (w.alloc (.cells #[.slice none 0 0, .slice none 0 0, .bool false, .int .i64 0, .bool false] 41)) (.cells #[.slice none 0 0, .slice none 0 0, .bool false, .int .i64 0, .bool false] 41)
    simpa using this, World.ownsRow_nil _ _ _ _⟩
  have ST := Lib.hid start
  clear hc hlt hend start
  go_enter Try.func16, Try.ntmps16
  go_wp2_with fail
  generalize ((w.alloc (.cells #[.slice none 0 0, .slice none 0 0, .bool false, .int .i64 0, .bool false] 41)).alloc (.cells #[.slice none 0 0, .slice none 0 0, .bool false, .int .i64 0, .bool false] 41)) = w1 at *
  go_loopg [4] n (fun k v wr => ∃ j : Nat, j + k = n ∧ v = .int .i64 j ∧ RnRel w j wr)
  case atStart => exact ⟨0, Nat.zero_add _, rfl, ST.out⟩
  case round =>
    obtain ⟨j, hj, rfl, hb, k0, A, c, k1, ho⟩ := hrel
    have HB := Lib.hid hb
    have K0 := Lib.hid k0
    have K1 := Lib.hid k1
    have HO := Lib.hid ho
    have hws := hb.size
    have c1 : wr.cell? ⟨w.heap.size + 1, 0, none⟩ = some (.slice A j c) := cell_of_block k1 0
    clear hb k0 k1 ho
    by_cases hjn : j < n
    · obtain ⟨l1, l2⟩ := HLT.out j hjn
      have hlt1 := block_lt K1.out
      have BS : Hid ((Value.agg (bv noSec).toArray).cells.size = 64) := Lib.hid (by simp [Value.cells, bv, noSec])
      have BL : Hid ((bv noSec).length = 1 * 64) := Lib.hid (by simp [bv, noSec])
      go_wp2_with (first
        | refine wpList_build_as rfl 25 #[] rfl (bv noSec).toArray secBuilt0 ?_
        | refine wpList_slice_one rfl 38 25 (.tmp 17) rfl 64 (.agg (bv noSec).toArray) (.agg (bv noSec).toArray) rfl Try.underlying38 secInfo2 (by decide) (by decide) BS.out ?_
        | (at_builtin; refine wpList_append_any rfl (.tmp 16) (.tmp 18) 38 rfl w.heap.size 25 (.agg (bv noSec).toArray) 64 64 Try.underlying38 secInfo' rfl (by decide) (by decide) (.slice A j c) j (sv (List.replicate j noSec)).flatten rfl (HO.out.alloc _) (some ⟨wr.heap.size, 0, none⟩) 1 1 (bv noSec) rfl (src_rows _ _ _ 1 (by decide)) BL.out (bv_one _) ?b5 ?b6 ?_))
      case b5 => omega
      case b6 => simp; omega
      intro v5 w5 ho5 hg5 _ hat5
      obtain ⟨A5, c5, rfl, -⟩ := own_form ho5
      have hno : ∀ k, (Value.slice A j c).ownBlock = some k → k ≠ w.heap.size ∧ k ≠ w.heap.size + 1 := fun k hk => ⟨own_ne HO.out hk K0.out (by decide), own_ne HO.out hk K1.out (by decide)⟩
      have hB5 : Below w.heap.size w w5 := (HB.out.alloc hws (.cells (bv noSec).toArray 25)).grown hg5 (by simp; omega) (fun k hk => (HO.out.lt k hk).1)
      have M0 := Lib.hid ((hg5.block w.heap.size (by simp; omega) (fun e => (hno _ e.symm).1 rfl)).trans ((heap_alloc_old _ _ (block_lt K0.out)).trans K0.out))
      have M1 := Lib.hid ((hg5.block (w.heap.size + 1) (by simp; omega) (fun e => (hno _ e.symm).2 rfl)).trans ((heap_alloc_old _ _ (block_lt K1.out)).trans K1.out))
      have HO5 := Lib.hid ho5
      have B5 := Lib.hid hB5
      have m1 : w5.cell? ⟨w.heap.size + 1, 0, none⟩ = some (.slice A j c) := cell_of_block M1.out 0
      have f1 := free_of_block M1.out 0
      have NX : Hid (RnRel w (j + 1) (w5.setCell ⟨w.heap.size + 1, 0, none⟩ (.slice A5 (j + 1) c5))) := Lib.hid
        ⟨B5.out.setCell (p := ⟨w.heap.size + 1, 0, none⟩) (by show w.heap.size ≤ w.heap.size + 1; omega) _, (hset_other _ _ _ (by show w.heap.size ≠ w.heap.size + 1; omega)).trans M0.out, A5, c5, hset_at w5 (w.heap.size + 1) 0 _ M1.out, by
          have e : (sv (List.replicate (j + 1) noSec)).flatten = (sv (List.replicate j noSec)).flatten ++ bv noSec := by rw [List.replicate_succ', sv, List.map_append]; simp [sv]
          rw [e]
          exact own_same HO5.out fun k hk => hset_other _ _ _ (own_ne HO5.out hk M1.out (by decide))⟩
      clear ho5 hg5 hat5 hno hB5 c1
      go_wp2_with fail
      go_roundg (gk - 1)
      case measure => omega
      case rel => exact ⟨j + 1, by omega, by go_num, NX.out⟩
    · obtain rfl : j = n := by omega
      have M6 := Lib.hid (setRow_at #[.slice A j c, .slice none 0 0, .bool false, .int .i64 0, .bool false] K0.out)
      have B6 := Lib.hid (below_setRow HB.out (Nat.le_refl _) #[.slice A j c, .slice none 0 0, .bool false, .int .i64 0, .bool false])
      have V1 : Hid ((Try.prog.info? 41).map (·.size) = some (#[.slice A j c, .slice none 0 0, .bool false, .int .i64 0, .bool false] : Array Value).size) := Lib.hid info_rd
      have V3 : Hid ((#[.slice A j c, .slice none 0 0, .bool false, .int .i64 0, .bool false] : Array Value).all (·.oneCell') = true) := Lib.hid (by simp [Value.oneCell'])
      have FIN : Hid (IsRef (wr.setRow w.heap.size #[.slice A j c, .slice none 0 0, .bool false, .int .i64 0, .bool false]) (.agg #[.slice A j c, .slice none 0 0, .bool false, .int .i64 0, .bool false]) (Dk.new j) (fun k => G k ∨ w.heap.size ≤ k)) := Lib.hid ⟨A, c, none, 0, 0, by
          have e : (Dk.new j).st.length = j := by simp [Dk.new]
          rw [rcells, e]
          rfl, ⟨Dk.new_ok j, by simp [Dk.new]; omega, by
            have e : (Dk.new j).st.length = j := by simp [Dk.new]
            rw [e]
            exact own_base (own_same HO.out fun k hk => setRow_other _ _ _ _ (own_ne HO.out hk K0.out (by decide))) (Nat.zero_le _), World.ownsRow_nil _ _ _ _, fun h => absurd (show (0 : Int) ≤ -1 from h) (by omega), by omega⟩, by
          rintro k (⟨a, ha, rfl⟩ | ⟨a, ha, rfl⟩)
          · exact .inr (HO.out.lt a.block (by rw [ha]; rfl)).1
          · cases ha⟩
      rcases HEND.out with h1 | ⟨h1, h2⟩
      all_goals
        go_wp2_with (first
          | refine wpList_load_block rfl 41 (.tmp 3) rfl (w.heap.size + 1) rfl #[.slice A j c, .slice none 0 0, .bool false, .int .i64 0, .bool false] 41 (0, 0) K1.out _ Try.underlying41 rfl V1.out ?_
          | refine wpList_store_block rfl 41 (.tmp 2) (.tmp 21) rfl w.heap.size #[.slice A j c, .slice none 0 0, .bool false, .int .i64 0, .bool false] rfl rfl #[.slice none 0 0, .slice none 0 0, .bool false, .int .i64 0, .bool false] 41 K0.out V1.out rfl V3.out ?_)
        exact bodyPost_ret (v := .agg #[.slice A j c, .slice none 0 0, .bool false, .int .i64 0, .bool false]) (res_cell Try.results16 _ _ w.heap.size 41 _ (0, 0) _ rfl M6.out Try.underlying41 rfl V1.out) rfl ⟨_, rfl, FIN.out, B6.out⟩
end Go.Proofs.Ytndcgofjhlndgaa.Disk
