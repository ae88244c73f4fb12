/- Contracts of disk's New and Pending. Conditions: none beyond each lemma's own hypotheses. -/
import Derived.Test.YtogkibikghbghaaFgDiskKeep
set_option linter.unusedVariables false
set_option linter.unusedSimpArgs false
namespace Go.Proofs.Ytogkibikghbghaa.Disk
open Go.RowKit Go.Proofs.Ytogkibikghbghaa.Fg

theorem make_secs (C : Int) (n : Nat) (hC : C = n) (hn : n ≤ 512) (u : World) : (Instr.makeSlice 56 (.int .i64 C) (.int .i64 C)).run Try.prog u =
    .ok (.slice (some ⟨u.heap.size, 0, none⟩) n n) (u.alloc (.cells (List.replicate n (bv noSec)).flatten.toArray 77)) := by
  subst hC
  exact run_make_rows Try.underlying56 secInfo (by simp [bv, noSec]) n (by omega) (by omega) u
/-- What New leaves. -/
def NewD (w : World) (n : Nat) (e : Ending) (w' : World) : Prop := ∃ g F, e = .returned (.pointer (some ⟨g, 0, none⟩)) ∧ IsDisk w' g (Dk.new n) F ∧ Below w.heap.size w w' ∧ ∀ k, F k → w.heap.size ≤ k
theorem new_made (w : World) (n : Nat) (hn : n ≤ 512) : IsDisk ((w.alloc (.cells (List.replicate n (bv noSec)).flatten.toArray 77)).alloc (.cells #[.slice (some ⟨w.heap.size, 0, none⟩) n n, .slice none 0 0, .int .i64 (-1), .bool false] 83))
    (w.heap.size + 1) (Dk.new n) (fun k => k = w.heap.size ∨ k = w.heap.size + 1) := by
  refine ⟨⟨w.heap.size, .slice none 0 0, ⟨Dk.new_ok n, by simp [Dk.new]; omega, ?_, ?_, World.ownsRow_nil _ _ _ _⟩, .inl rfl, (fun k hk => by cases hk)⟩, .inr rfl, fun k hk => by simp; omega⟩
  · have := heap_alloc_at (w.alloc (.cells (List.replicate n (bv noSec)).flatten.toArray 77)) (.cells #[.slice (some ⟨w.heap.size, 0, none⟩) n n, .slice none 0 0, .int .i64 (-1), .bool false] 83)
    simpa [Dk.new] using this
  · have e : sv (Dk.new n).st = List.replicate n (bv noSec) := by simp [sv, Dk.new]
    rw [e]
    show (World.alloc _ _).heap[w.heap.size]? = _
    rw [heap_alloc_old _ _ (by simp)]
    exact heap_alloc_at w _
theorem new_any (sectors : Int) (n : Nat) (w : World) (hc : (n : Int) = if sectors < 0 then 0 else if 512 < sectors then 512 else sectors) :
    Calls Try.prog 8 #[.int .i64 sectors] w (NewD w n) := by
  have hn : n ≤ 512 := by split at hc <;> (try split at hc) <;> omega
  have fin : NewD w n (.returned (.pointer (some ⟨w.heap.size + 1, 0, none⟩))) ((w.alloc (.cells (List.replicate n (bv noSec)).flatten.toArray 77)).alloc (.cells #[.slice (some ⟨w.heap.size, 0, none⟩) n n, .slice none 0 0, .int .i64 (-1), .bool false] 83)) :=
    ⟨_, _, rfl, new_made w n hn, ((Below.refl _ _).alloc (Nat.le_refl _) _).alloc (by simp) _, fun k hk => by omega⟩
  have HF := Lib.hid fin
  clear fin
  rcases (show sectors ≤ 0 ∨ (0 < sectors ∧ sectors ≤ 512) ∨ 512 < sectors by omega) with h | ⟨h, h'⟩ | h
  · have h0 : n = 0 := by split at hc <;> (try split at hc) <;> omega
    have hmk := make_secs 0 n (by omega) hn
    clear hc h0 hn
    have h1 : sectors ≤ 512 := by omega
    generalize (List.replicate n (bv noSec)).flatten.toArray = Z at *
    go_enter Try.func8, Try.ntmps8
    go_wp2_with fail
    all_goals
      go_ret
      exact HF.out
  · have h0 : (n : Int) = sectors := by split at hc <;> (try split at hc) <;> omega
    have hmk := make_secs sectors n h0.symm hn
    clear hc h0 hn
    generalize (List.replicate n (bv noSec)).flatten.toArray = Z at *
    go_enter Try.func8, Try.ntmps8
    go_wp2_with fail
    all_goals
      go_ret
      exact HF.out
  · have h0 : n = 512 := by split at hc <;> (try split at hc) <;> omega
    have hmk := make_secs 512 n (by omega) hn
    clear hc h0 hn
    generalize (List.replicate n (bv noSec)).flatten.toArray = Z at *
    go_enter Try.func8, Try.ntmps8
    go_wp2_with fail
    all_goals
      go_ret
      exact HF.out
end Go.Proofs.Ytogkibikghbghaa.Disk
