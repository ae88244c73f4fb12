/- Contracts of crc's tail and Seal. Conditions: none beyond each lemma's own hypotheses. -/
import Derived.Test.YtogkibikghbghaaFgCrcStep
namespace Go.Proofs.Ytogkibikghbghaa.Crc
open Go.RowKit Go.Proofs.Ytogkibikghbghaa.Fg

/-- A sum as four bytes. -/
def tailB (s : BitVec 32) : List Int := [(s.toNat : Int) / (16777216 : Int), (s.toNat : Int) / (65536 : Int) % (256 : Int), (s.toNat : Int) / (256 : Int) % (256 : Int), (s.toNat : Int) % (256 : Int)]
theorem tailB_small (s : BitVec 32) : Small (tailB s) := by
  have := s.isLt
  intro x hx
  simp only [tailB, List.mem_cons, List.not_mem_nil, or_false] at hx
  omega
theorem tail_any (s : BitVec 32) (w : World) :
    Calls Try.prog 72 #[.int .u32 s.toNat] w fun e w' => e = .returned (.slice (some ⟨w.heap.size, 0, none⟩) 4 4) ∧ w' = w.alloc (.cells (bv (tailB s)).toArray 5) := by
  have hs := s.isLt
  go_enter Try.func72, Try.ntmps72
  go_wp2_with fail
  go_ret
  exact ⟨rfl, rfl⟩
def sealed (l : List Int) : List Int := l ++ tailB (sumOf l)
theorem sealed_length (l : List Int) : (sealed l).length = l.length + 4 := by simp [sealed, tailB]
theorem sealed_small {l : List Int} (h : Small l) : Small (sealed l) := by
  intro x hx
  rcases List.mem_append.1 hx with h1 | h1
  · exact h x h1
  · exact tailB_small _ x h1
/-- What a Seal leaves. -/
def SealMade (l : List Int) (w : World) (e : Ending) (w' : World) : Prop :=
  ∃ A c, e = .returned (.slice A (l.length + 4) c) ∧ w'.ownsRow w.heap.size 5 1 (.slice A (l.length + 4) c) (l.length + 4) (bv (sealed l)) ∧ Below w.heap.size w w'

set_option maxRecDepth 100000 in
theorem seal_any (l : List Int) (hb : Small l) (hn : l.length ≤ 100000) (A : Option Addr) (c : Nat) (w : World) (hs : Src w A l.length c (bv l)) :
    Calls Try.prog 59 #[.slice A l.length c] w (SealMade l w) := by
  have HS := Lib.hid hs
  have HB := Lib.hid hb
  clear hs hb
  go_enter Try.func59, Try.ntmps59
  go_wp2_with fail
  refine (of_any [l] (by intro m hm; simp at hm; subst hm; exact ⟨HB.out, by omega⟩) (by simp) _ _ _ (parts_one w A c l 37 HS.out)).mono ?_
  rintro e w1 ⟨rfl, rfl⟩
  have he : sumOf [l].flatten = sumOf l := by simp
  rw [he]
  clear he
  go_wp2_with fail
  refine (tail_any (sumOf l) _).mono ?_
  rintro e w2 ⟨rfl, rfl⟩
  go_wp2_with fail
  have p2 := parts_two ((w.alloc (.cells #[.slice A l.length c] 37)).alloc (.cells (bv (tailB (sumOf l))).toArray 5)) A (some ⟨w.heap.size + 1, 0, none⟩) c 4 l (tailB (sumOf l)) 37
    (HS.out.same fun ad had hne => by rw [heap_alloc_old _ _ (by have := HS.out.lt had hne; simp; omega), heap_alloc_old _ _ (HS.out.lt had hne)])
    (by have h := src_const (w.alloc (.cells #[.slice A l.length c] 37)) (tailB (sumOf l)) (0, 0) (by simp [tailB, maxLen]); rw [show (w.alloc (.cells #[.slice A l.length c] 37)).heap.size = w.heap.size + 1 by simp] at h; exact h)
  have hc := concat_any [l, tailB (sumOf l)] (by simp) (by simp [tailB]; omega) _ _ _ p2
  have ef : [l, tailB (sumOf l)].flatten = sealed l := by simp [sealed]
  have e2 : [l, tailB (sumOf l)].length = 2 := rfl
  have ez : ((w.alloc (.cells #[.slice A l.length c] 37)).alloc (.cells (bv (tailB (sumOf l))).toArray 5)).heap.size = w.heap.size + 1 + 1 := by simp
  rw [ef, sealed_length, e2, ez] at hc
  have b3 : Below w.heap.size w (((w.alloc (.cells #[.slice A l.length c] 37)).alloc (.cells (bv (tailB (sumOf l))).toArray 5)).alloc (.cells #[.slice A l.length c, .slice (some ⟨w.heap.size + 1, 0, none⟩) 4 4] 37)) :=
    (((Below.refl _ _).alloc (Nat.le_refl _) _).alloc (by simp) _).alloc (by simp; omega) _
  have B3 := Lib.hid b3
  clear ef b3 p2 e2 ez
  refine hc.mono ?_
  rintro e w3 ⟨v, rfl, hown, hbel⟩
  have HO := Lib.hid hown
  have HBL := Lib.hid hbel
  obtain ⟨A', c', rfl, -⟩ := own_form hown
  clear hown hbel hc
  go_wp2_with fail
  go_ret
  exact ⟨A', c', rfl, own_base HO.out (by simp; omega), B3.out.trans (HBL.out.mono (by simp; omega))⟩

theorem of_one (l : List Int) (hb : Small l) (hn : l.length ≤ 140737488355328) (A : Option Addr) (c : Nat) (w : World) (hs : Parts w A c [l]) :
    Calls Try.prog 73 #[.slice A 1 c] w fun e w' => e = .returned (.int .u32 (sumOf l).toNat) ∧ w' = w := by
  have h := of_any [l] (fun m hm => by rw [List.mem_singleton] at hm; subst hm; exact ⟨hb, hn⟩) (by simp) A c w hs
  rw [show [l].flatten = l by simp] at h
  exact h
/-- The sums of one slice, just laid. -/
theorem parts_at {w : World} {g : Nat} (hg : w.heap.size = g) {A : Option Addr} {c : Nat} {l : List Int} (t : TypeId) (h : Src w A l.length c (bv l)) : Parts (w.alloc (.cells #[.slice A l.length c] t)) (some ⟨g, 0, none⟩) 1 [l] := by
  subst hg; exact parts_one w A c l t h
theorem src_at {w : World} {g : Nat} (hg : w.heap.size = g) (l : List Int) (fr : Nat × Nat) (hn : l.length ≤ 1000000) : Src (w.alloc (.cells (bv l).toArray 5 fr)) (some ⟨g, 0, none⟩) l.length l.length (bv l) := by
  subst hg; exact src_const w l fr (by simp only [maxLen]; omega)

end Go.Proofs.Ytogkibikghbghaa.Crc
