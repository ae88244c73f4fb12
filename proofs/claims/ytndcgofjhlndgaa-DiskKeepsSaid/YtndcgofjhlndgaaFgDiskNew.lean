/- Contracts of disk's New and Pending. Conditions: none beyond each lemma's own hypotheses. -/
import Derived.Test.YtndcgofjhlndgaaFgDiskKeep
set_option linter.unusedVariables false
set_option linter.unusedSimpArgs false
namespace Go.Proofs.Ytndcgofjhlndgaa.Disk
open Go.RowKit Go.Proofs.Ytndcgofjhlndgaa.Fg

theorem make_secs (C : Int) (n : Nat) (hC : C = n) (hn : n ≤ 512) (u : World) : (Instr.makeSlice 38 (.int .i64 C) (.int .i64 C)).run Try.prog u =
    .ok (.slice (some ⟨u.heap.size, 0, none⟩) n n) (u.alloc (.cells (List.replicate n (bv noSec)).flatten.toArray 25)) := by
  subst hC
  exact run_make_rows Try.underlying38 secInfo (by simp [bv, noSec]) n (by omega) (by omega) u
/-- What New leaves. -/
def NewD (w : World) (n : Nat) (e : Ending) (w' : World) : Prop := ∃ g F, e = .returned (.pointer (some ⟨g, 0, none⟩)) ∧ IsDisk w' g (Dk.new n) F ∧ Below w.heap.size w w' ∧ ∀ k, F k → w.heap.size ≤ k
theorem new_made (w : World) (n : Nat) (hn : n ≤ 512) : IsDisk ((w.alloc (.cells (List.replicate n (bv noSec)).flatten.toArray 25)).alloc (.cells #[.slice (some ⟨w.heap.size, 0, none⟩) n n, .slice none 0 0, .int .i64 (-1), .bool false] 61))
    (w.heap.size + 1) (Dk.new n) (fun k => k = w.heap.size ∨ k = w.heap.size + 1) := by
  refine ⟨⟨w.heap.size, .slice none 0 0, ⟨Dk.new_ok n, by simp [Dk.new]; omega, ?_, ?_, World.ownsRow_nil _ _ _ _⟩, .inl rfl, (fun k hk => by cases hk)⟩, .inr rfl, fun k hk => by simp; omega⟩
  · have := heap_alloc_at (w.alloc (.cells (List.replicate n (bv noSec)).flatten.toArray 25)) (.cells #[.slice (some ⟨w.heap.size, 0, none⟩) n n, .slice none 0 0, .int .i64 (-1), .bool false] 61)
    simpa [Dk.new] using this
  · have e : sv (Dk.new n).st = List.replicate n (bv noSec) := by simp [sv, Dk.new]
    rw [e]
    show (World.alloc _ _).heap[w.heap.size]? = _
    rw [heap_alloc_old _ _ (by simp)]
    exact heap_alloc_at w _
theorem new_any (sectors : Int) (n : Nat) (w : World) (hc : (n : Int) = if sectors < 0 then 0 else if 512 < sectors then 512 else sectors) :
    Calls Try.prog 7 #[.int .i64 sectors] w (NewD w n) := by
  have hn : n ≤ 512 := by split at hc <;> (try split at hc) <;> omega
  have fin : NewD w n (.returned (.pointer (some ⟨w.heap.size + 1, 0, none⟩))) ((w.alloc (.cells (List.replicate n (bv noSec)).flatten.toArray 25)).alloc (.cells #[.slice (some ⟨w.heap.size, 0, none⟩) n n, .slice none 0 0, .int .i64 (-1), .bool false] 61)) :=
    ⟨_, _, rfl, new_made w n hn, ((Below.refl _ _).alloc (Nat.le_refl _) _).alloc (by simp) _, fun k hk => by omega⟩
  have HF := Lib.hid fin
  clear fin
  rcases (show sectors ≤ 0 ∨ (0 < sectors ∧ sectors ≤ 512) ∨ 512 < sectors by omega) with h | ⟨h, h'⟩ | h
  · have h0 : n = 0 := by split at hc <;> (try split at hc) <;> omega
    have hmk := make_secs 0 n (by omega) hn
    clear hc h0 hn
    have h1 : sectors ≤ 512 := by omega
    generalize (List.replicate n (bv noSec)).flatten.toArray = Z at *
    go_enter Try.func7, Try.ntmps7
    go_wp2_with fail
    all_goals
      go_ret
      exact HF.out
  · have h0 : (n : Int) = sectors := by split at hc <;> (try split at hc) <;> omega
    have hmk := make_secs sectors n h0.symm hn
    clear hc h0 hn
    generalize (List.replicate n (bv noSec)).flatten.toArray = Z at *
    go_enter Try.func7, Try.ntmps7
    go_wp2_with fail
    all_goals
      go_ret
      exact HF.out
  · have h0 : n = 512 := by split at hc <;> (try split at hc) <;> omega
    have hmk := make_secs 512 n (by omega) hn
    clear hc h0 hn
    generalize (List.replicate n (bv noSec)).flatten.toArray = Z at *
    go_enter Try.func7, Try.ntmps7
    go_wp2_with fail
    all_goals
      go_ret
      exact HF.out

theorem info_i64 : (Try.prog.info? 3).map (fun i => (i.zero, i.size, i.bytes)) = some (some (.int .i64 0), 1, 8) := by kernel_rfl
/-- The places of pending writes. -/
def atv (l : List (Nat × List Int)) : List Value := l.map fun x => .int .i64 x.1
def PendRel (w : World) (d : Dk) (j : Nat) (v : Value) (w' : World) : Prop := w'.ownsRow w.heap.size 3 1 v j (atv (d.pd.take j)) ∧ Below w.heap.size w w'
def PendOut (w : World) (d : Dk) (e : Ending) (w' : World) : Prop := ∃ A c, e = .returned (.slice A d.pd.length c) ∧ w'.ownsRow w.heap.size 3 1 (.slice A d.pd.length c) d.pd.length (atv d.pd) ∧ Below w.heap.size w w'
set_option maxRecDepth 100000 in
set_option maxHeartbeats 1000000 in
theorem pending_any {w : World} {g : Nat} {d : Dk} {F : Nat → Prop} (h : IsDisk w g d F) :
    Calls Try.prog 23 #[.pointer (some ⟨g, 0, none⟩)] w (PendOut w d) := by
  obtain ⟨A, c, hp1, hp2⟩ := h.pend
  have HR := Lib.hid hp2
  have hglt := h.lt g h.self
  have HOK := Lib.hid h.ok
  have hfew := h.few.2
  clear h hp2
  go_enter Try.func23, Try.ntmps23
  go_wp2_with fail
  go_loopg [3, 11] d.pd.length (fun k v n wr => ∃ j : Nat, j + k = d.pd.length ∧ n = .int .i64 j ∧ PendRel w d j v wr)
  case atStart => exact ⟨0, Nat.zero_add _, rfl, World.ownsRow_nil _ _ _ _, Below.refl _ _⟩
  case round =>
    obtain ⟨j, hj, rfl, ho, hb⟩ := hrel
    obtain ⟨A1, c1, rfl, -⟩ := own_form ho
    have HO := Lib.hid ho
    have HB := Lib.hid hb
    clear ho hb
    by_cases hlt : j < d.pd.length
    · obtain ⟨x, hx⟩ : ∃ x, d.pd[j]? = some x := ⟨_, List.getElem?_eq_getElem hlt⟩
      obtain ⟨p, rfl, hp1, hp2⟩ := HR.out j (wrow x) (by rw [List.getElem?_map, hx]; rfl)
      have hx64 : x.2.length = 64 := (HOK.out.at_ x (List.mem_of_getElem? hx)).2
      have R0 := Lib.hid (heap_alloc_at wr (.cells (.int .i64 0 :: bv noSec).toArray 63))
      have R1 := Lib.hid (setRow_at (wrow x).toArray R0.out)
      have R2 : Hid (Below wr.heap.size wr ((wr.alloc (.cells (.int .i64 0 :: bv noSec).toArray 63)).setRow wr.heap.size (wrow x).toArray)) := Lib.hid (below_setRow ((Below.refl _ _).alloc (Nat.le_refl _) _) (Nat.le_refl _) _)
      have HPR : Hid (wr.rangeAt p (j * 65) (wrow x)) := Lib.hid (fun i v hv => (HB.out.cell (p := ⟨p, j * 65 + i, none⟩) hp1).trans (hp2 i v hv))
      have Y1 := Lib.hid (wr_load x hx64)
      have Y2 := Lib.hid (wr_size x hx64)
      have Y3 : Hid ((.int .i64 0 :: bv noSec).toArray.size = (wrow x).toArray.size) := Lib.hid (by simp [wrow, bv, hx64, noSec])
      have Y4 := Lib.hid (wrow_one x)
      have HT : Hid (atv (d.pd.take (j + 1)) = atv (d.pd.take j) ++ [.int .i64 x.1]) := Lib.hid (by rw [List.take_add_one, hx]; simp [atv])
      clear hx hp2 hx64
      go_upto_region 5 with (first
        | refine wpList_load_mid rfl 63 (.tmp 13) rfl p (j * 65) rfl (wrow x) _ HPR.out Try.underlying63 rfl Y1.out ?_
        | refine wpList_alloc_as rfl 63 rfl (.int .i64 0 :: bv noSec).toArray wrZero ?_
        | refine wpList_store_block rfl 63 (.tmp 5) (.tmp 14) rfl wr.heap.size (wrow x).toArray rfl rfl (.int .i64 0 :: bv noSec).toArray 63 R0.out Y2.out Y3.out Y4.out ?_)
      generalize (wr.alloc (.cells (.int .i64 0 :: bv noSec).toArray 63)).setRow wr.heap.size (wrow x).toArray = w9 at *
      have q0 : w9.cell? ⟨wr.heap.size, 0, none⟩ = some (.int .i64 x.1) := cell_of_block R1.out 0
      have B9 : Hid (Below w.heap.size w w9) := Lib.hid (HB.out.trans (R2.out.mono HB.out.size))
      have hs9 := B9.out.size
      have O9 : Hid (w9.ownsRow w.heap.size 3 1 (.slice A1 j c1) j (atv (d.pd.take j))) := Lib.hid (own_same HO.out fun k hk => R2.out.block k (HO.out.lt k hk).2)
      go_wp2_with (at_builtin; refine wpList_append_any rfl (.tmp 15) (.tmp 18) 53 rfl w.heap.size 3 (.int .i64 0) 1 8 Try.underlying53 info_i64 rfl (by decide) (by decide) (.slice A1 j c1) j (atv (d.pd.take j)) rfl (O9.out.alloc _) (some ⟨w9.heap.size, 0, none⟩) 1 1 [.int .i64 x.1] rfl (src_cell _ _ _) rfl ?a5 ?a6 ?a7 ?_)
      case a5 => simp [Value.oneCell']
      case a6 => omega
      case a7 => simp; omega
      intro v1 w1 ho1 hg1 _ hat1
      have hb1 : Below w.heap.size w w1 := (B9.out.alloc hs9 (.cells #[.int .i64 x.1] 3)).grown hg1 (by simp; omega) (fun k hk => (O9.out.lt k hk).1)
      have HO1 := Lib.hid ho1
      have HB1 := Lib.hid hb1
      clear ho1 hg1 hat1 hb1
      go_wp2_with fail
      go_roundg (gk - 1)
      case measure => omega
      case rel => exact ⟨j + 1, by omega, by go_num, by rw [HT.out]; exact HO1.out, HB1.out⟩
    · have e : j = d.pd.length := by omega
      subst e
      rw [List.take_length] at HO
      go_wp2_with fail
      go_ret
      exact ⟨A1, c1, rfl, HO.out, HB.out⟩
end Go.Proofs.Ytndcgofjhlndgaa.Disk
