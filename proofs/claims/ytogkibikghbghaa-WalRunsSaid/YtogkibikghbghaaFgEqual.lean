/- Contract of slices.Equal of bytes. Conditions: none beyond the lemma's own hypotheses. -/
import Derived.Test.YtogkibikghbghaaFgBytes
import Derived.Deep.LoopGhost
import Derived.Deep.QuietTactic
namespace Go.Proofs.Ytogkibikghbghaa.Fg
open Go.RowKit

/-- The bytes of a slice that is read. -/
theorem src_u8 {w : World} {A : Option Addr} {c : Nat} {l : List Int} (h : Src w A l.length c (bv l)) {j : Nat} (hj : j < l.length) : ∃ ad, A = some ad ∧ w.cell? (ad.add j) = some (.int .u8 l[j]) := by
  cases A with
  | none => have := (h.nil rfl).1; omega
  | some ad => exact ⟨ad, rfl, h.cells ad rfl j _ (by simp [bv, hj])⟩

set_option maxRecDepth 100000 in
theorem equal_any (l m : List Int) (hl : l.length ≤ 140737488355328) (A B : Option Addr) (c d : Nat) (w : World) (hs : Src w A l.length c (bv l)) (ht : Src w B m.length d (bv m)) :
    Calls Try.prog 86 #[.slice A l.length c, .slice B m.length d] w fun e w' => e = .returned (.bool (decide (l = m))) ∧ Below w.heap.size w w' := by
  have HS := Lib.hid hs
  have HT := Lib.hid ht
  clear hs ht
  by_cases hlen : l.length = m.length
  · have HE : Hid (l.length = m.length) := Lib.hid hlen
    have hlen' : (l.length : Int) = (m.length : Int) := by omega
    go_enter Try.func86, Try.ntmps86
    clear hlen
    go_wp2_with fail
    clear hlen'
    go_loopg [5, 13] l.length (fun k _ i wr => ∃ j : Nat, j + k = l.length ∧ i = .int .i64 j ∧ l.take j = m.take j ∧ ∃ q : Nat, wr = w.drewN q)
    case atStart => exact ⟨0, Nat.zero_add _, rfl, rfl, 0, rfl⟩
    case round =>
      obtain ⟨j, hj, rfl, hpre, q, rfl⟩ := hrel
      have HP := Lib.hid hpre
      clear hpre
      by_cases hlt : j < l.length
      · have hlt2 : j < m.length := by have := HE.out; omega
        obtain ⟨ad, rfl, ca⟩ := src_u8 HS.out hlt
        obtain ⟨bd, rfl, cb⟩ := src_u8 HT.out hlt2
        have s1 : l.take (j + 1) = l.take j ++ [l[j]] := by rw [List.take_add_one, List.getElem?_eq_getElem hlt]; rfl
        have s2 : m.take (j + 1) = m.take j ++ [m[j]] := by rw [List.take_add_one, List.getElem?_eq_getElem hlt2]; rfl
        by_cases hx : l[j] = m[j]
        · have HN : Hid (l.take (j + 1) = m.take (j + 1)) := Lib.hid (by rw [s1, s2, HP.out, hx])
          clear s1 s2
          generalize l[j] = x at *
          generalize m[j] = y at *
          subst hx
          go_wp2_with fail
          go_quiet (fail)
          go_wp2_with fail
          go_roundg (gk - 1)
          case measure => omega
          case rel => exact ⟨j + 1, by omega, by go_num, HN.out, _, rfl⟩
        · have HN : Hid (decide (l = m) = false) := Lib.hid (decide_eq_false (fun e => hx (by subst e; rfl)))
          have hxb : (l[j] == m[j]) = false := by rw [beq_eq_false_iff_ne]; exact hx
          clear s1 s2 hx
          generalize l[j] = x at *
          generalize m[j] = y at *
          go_wp2_with fail
          go_quiet (fail)
          go_wp2_with fail
          go_ret
          exact ⟨by rw [HN.out]; rfl, below_drewN (below_drewN (Below.refl _ _) _) _⟩
      · have hlt2 : ¬ j < m.length := by have := HE.out; omega
        have hN : l = m := by
          have h := HP.out
          rw [List.take_of_length_le (by omega), List.take_of_length_le (by have := HE.out; omega)] at h
          exact h
        have HN : Hid (decide (l = m) = true) := Lib.hid (decide_eq_true hN)
        clear hN
        go_wp2_with fail
        go_ret
        exact ⟨by rw [HN.out]; rfl, below_drewN (Below.refl _ _) _⟩
  · have HE : Hid (decide (l = m) = false) := Lib.hid (decide_eq_false (fun e => hlen (by rw [e])))
    have hne : ((l.length : Int) == (m.length : Int)) = false := by rw [beq_eq_false_iff_ne]; omega
    clear hlen
    rw [HE.out]
    go_enter Try.func86, Try.ntmps86
    go_wp2_with fail
    go_ret
    exact ⟨rfl, Below.refl _ _⟩

end Go.Proofs.Ytogkibikghbghaa.Fg
