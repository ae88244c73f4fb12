/- Contract of slices.Clone at []byte. Conditions: none beyond the lemma's own hypotheses. -/
import Derived.Test.YtogkibikghbghaaFgBv
import Derived.Lib.SliceRun
import Derived.Laws.BytesArg
import Derived.Lib.SlBytesConst
import Derived.Lib.SmallJoins
import Derived.Deep.SlicePairs
namespace Go.Proofs.Ytogkibikghbghaa.Fg
open Go.RowKit Go.ChangeShapes Go.WideShapes Go.ChangeAt

/-- Bytes that a call has made: a row of its own, in new memory. -/
def Made (l : List Int) (w : World) (nil : Bool) (e : Ending) (w' : World) : Prop :=
  ∃ v, e = .returned v ∧ w'.ownsRow w.heap.size 5 1 v l.length (bv l) ∧ Below w.heap.size w w' ∧ (v = .slice none 0 0 ↔ nil = true)

theorem clone_any (l : List Int) (A : Option Addr) (c : Nat) (w : World) (hs : Src w A l.length c (bv l)) (hn : l.length ≤ 140737488355328) :
    Calls Try.prog 87 #[.slice A l.length c] w (Made l w A.isNone) := by
  have qT : ∀ (w : World) (a : Option Addr) (n c n' c' : Nat), (binOp .eql 37 (.slice a n c) (.slice none n' c')).run Try.prog w = .ok (.bool a.isNone) w :=
    fun w a n c n' c' => Lib.run_eql_slice_nil w _ _ a n c n' c' Try.underlying37
  cases A with
  | none =>
    have h0 := hs.nil rfl
    have hl : l = [] := List.eq_nil_of_length_eq_zero h0.1
    have hc := h0.2
    subst hl hc
    clear h0
    go_enter Try.func87, Try.ntmps87
    go_wp2
    go_ret
    exact ⟨_, rfl, World.ownsRow_nil _ _ _ _, Below.refl _ _, by simp⟩
  | some ad =>
    go_enter Try.func87, Try.ntmps87
    go_wp2_with (at_builtin; refine wpList_append_any rfl (.tmp 5) (.tmp 6) 37 rfl w.heap.size 5 (.int .u8 0) 1 1 Try.underlying37 info_u8 rfl (by decide) (by decide) (.slice (some ⟨w.heap.size, 0, none⟩) 0 0) 0 [] rfl ?h1 (some ad) l.length c (bv l) rfl ?h2 ?h3 (bv_one l) ?h4 ?h5 ?h6)
    case h1 => exact World.ownsRow_made w #[] 0 (Nat.le_refl _) (Nat.zero_le _) rfl
    case h2 => exact hs.same fun a _ hne => heap_alloc_old _ _ (hs.lt (by assumption) hne)
    case h3 => simp [bv]
    case h4 => omega
    case h5 => simp
    intro v w1 hown hgrow hnil _
    go_wp2
    go_ret
    refine ⟨v, rfl, by simpa using hown, ?_, ?_⟩
    · exact ((Below.refl _ _).alloc (Nat.le_refl _) _).grown hgrow (by simp) (by simp [Value.ownBlock])
    · exact ⟨fun e => by first | exact (hnil e).elim | exact absurd (hnil.1 e) (by simp), fun e => by cases e⟩

end Go.Proofs.Ytogkibikghbghaa.Fg
