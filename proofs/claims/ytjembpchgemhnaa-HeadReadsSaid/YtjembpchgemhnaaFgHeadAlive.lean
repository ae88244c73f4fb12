/- Contract of the law's example of a packet. Conditions: none. -/
import Derived.Test.YtjembpchgemhnaaFgHeadSame
set_option linter.unusedVariables false
set_option linter.unusedSimpArgs false
namespace Go.Proofs.Ytjembpchgemhnaa.Head
open Go.RowKit Go.Proofs.Ytjembpchgemhnaa.Fg

def exH : Hd := ⟨0, 0, 0, 9, 0, 0, 0, 0, 0, 1, 2, 3, 4, []⟩
theorem ex_makes : makes exH [104, 105] = true := by decide
theorem ex_packet : packet exH [104, 105] = [69, 0, 0, 22, 0, 0, 0, 0, 9, 0, 173, 227, 0, 0, 0, 0, 1, 2, 3, 4, 104, 105] := by decide +kernel
theorem ex_fault : fault [69, 0, 0, 22, 0, 0, 0, 0, 9, 0, 173, 227, 0, 0, 0, 0, 1, 2, 3, 4, 104, 105] = 0 := by decide +kernel
theorem ex_read : readHd [69, 0, 0, 22, 0, 0, 0, 0, 9, 0, 173, 227, 0, 0, 0, 0, 1, 2, 3, 4, 104, 105] = exH ∧ readPl [69, 0, 0, 22, 0, 0, 0, 0, 9, 0, 173, 227, 0, 0, 0, 0, 1, 2, 3, 4, 104, 105] = [104, 105] := by
  rw [readHd, readPl, if_pos ex_fault, if_pos ex_fault]
  exact ⟨rfl, rfl⟩
theorem ex_sum : sumH [0, 1, 242, 3] = 3579 := by decide +kernel
theorem src_at0 {w : World} {g : Nat} (hg : w.heap.size = g) (l : List Int) (fr : Nat × Nat) (hn : l.length ≤ 1000000) : Src (w.alloc (.cells (bv l).toArray 5 fr)) (some ⟨g, 0, none⟩) l.length l.length (bv l) := by
  subst hg; exact src_const w l fr (by simp only [maxLen]; omega)

set_option maxRecDepth 100000 in
set_option maxHeartbeats 1000000 in
theorem alive_any (w : World) : Calls Try.prog 13 #[] w fun e w' => e = .returned (.bool true) ∧ Below w.heap.size w w' := by
  have kc := fun (w : World) (C : Array Value) (n c : Nat) => Lib.run_convert_bytes_const (P := Try.prog) w 24 5 C n c Try.underlying24 Try.underlying5
  go_enter Try.func13, Try.ntmps13
  go_wp2_with fail
  have hm := make_any exH ⟨(by unfold Small; simp [exH]), (by unfold Small; simp [exH])⟩ none 0 [104, 105] (by unfold Small; simp) (some ⟨w.heap.size, 0, none⟩) 2 (w.alloc (.cells #[.int .u8 104, .int .u8 105] 5 (2, 3))) ⟨fun _ => ⟨rfl, rfl⟩, Nat.le_refl _, by simp [maxLen], fun _ h => by cases h⟩ (src_at0 rfl [104, 105] (2, 3) (by decide)) (by decide) (by decide)
  refine hm.mono ?_
  clear hm
  rintro e w1 ⟨A1, c1, rfl, ho1, hb1⟩
  rw [ex_makes, if_pos rfl, if_pos rfl, ex_packet] at ho1
  rw [ex_makes, if_pos rfl, if_pos rfl, ex_packet]
  have B1 : Hid (Below w.heap.size w w1) := Lib.hid (((Below.refl _ _).alloc (Nat.le_refl _) _).trans (hb1.mono (by simp)))
  have HO1 := Lib.hid ho1
  clear ho1 hb1
  simp only [List.length_cons, List.length_nil, Nat.zero_add, Nat.reduceAdd] at HO1 ⊢
  go_wp2_with fail
  have hr := read_any [69, 0, 0, 22, 0, 0, 0, 0, 9, 0, 173, 227, 0, 0, 0, 0, 1, 2, 3, 4, 104, 105] (by unfold Small; simp) (by decide) A1 c1 w1 (Src.of_own HO1.out)
  refine hr.mono ?_
  clear hr
  rintro e w2 ⟨A2, c2, A3, c3, rfl, ho2, ho3, hb2⟩
  rw [ex_read.1, ex_read.2, ex_fault]
  rw [ex_read.2] at ho3
  have B2 : Hid (Below w.heap.size w w2) := Lib.hid (B1.out.trans (hb2.mono B1.out.size))
  have T3 : Hid (∀ w', Below w2.heap.size w2 w' → (convert 24 9 (.slice A3 2 c3)).run Try.prog w' = .ok (.string (strOfNums [104, 105])) w') := Lib.hid (fun w' hb => str_run [104, 105] A3 c3 w' ((Src.of_own ho3).same fun ad had hne => hb.block _ ((Src.of_own ho3).lt had hne)))
  have tl : (strOfNums [104, 105]).toList = [104, 105] := by decide +kernel
  clear ho2 ho3 hb2
  simp only [List.length_cons, List.length_nil, Nat.zero_add, Nat.reduceAdd, hv, exH]
  go_upto_region 3 with fail
  have B3 : Hid (Below w2.heap.size w2 (w2.alloc (.cells #[.int .i64 0, .int .i64 0, .int .i64 0, .int .i64 9, .int .i64 0, .int .u8 0, .int .u8 0, .int .u8 0, .int .u8 0, .int .u8 1, .int .u8 2, .int .u8 3, .int .u8 4, .slice A2 0 c2] 26))) := Lib.hid ((Below.refl _ _).alloc (Nat.le_refl _) _)
  have hb3 := heap_alloc_at w2 (.cells #[.int .i64 0, .int .i64 0, .int .i64 0, .int .i64 9, .int .i64 0, .int .u8 0, .int .u8 0, .int .u8 0, .int .u8 0, .int .u8 1, .int .u8 2, .int .u8 3, .int .u8 4, .slice A2 0 c2] 26)
  generalize w2.alloc (.cells _ 26) = w3 at *
  have S4 : Hid (Src (w3.alloc (.cells #[.int .u8 0, .int .u8 1, .int .u8 242, .int .u8 3] 5)) (some ⟨w3.heap.size, 0, none⟩) 4 4 (bv [0, 1, 242, 3])) := Lib.hid (src_at0 rfl [0, 1, 242, 3] (0, 0) (by decide))
  have hcell : ∀ j, (w3.alloc (.cells #[.int .u8 0, .int .u8 1, .int .u8 242, .int .u8 3] 5)).cell? ⟨w2.heap.size, j, none⟩ = _ := fun j => cell_of_block ((heap_alloc_old w3 _ (block_lt hb3)).trans hb3) j
  have k3 := hcell 3
  have k9 := hcell 9
  have k10 := hcell 10
  have k11 := hcell 11
  have k12 := hcell 12
  simp only [List.getElem?_toArray] at k3 k9 k10 k11 k12
  have t3 := T3.out _ (B3.out.alloc B3.out.size (.cells #[.int .u8 0, .int .u8 1, .int .u8 242, .int .u8 3] 5))
  have eqa : ∀ (a b c d : Int) (w : World), (Op.equalIn 10000 23 (.agg #[.int .u8 a, .int .u8 b, .int .u8 c, .int .u8 d]) (.agg #[.int .u8 a, .int .u8 b, .int .u8 c, .int .u8 d])).run Try.prog w = .ok true w := fun a b c d w => by
    obtain ⟨i0, hi, -⟩ := info_parts info_u8
    have := eq_bytes (P := Try.prog) 9998 Try.underlying23 Try.underlying5 hi (by kernel_rfl) (by kernel_rfl) [a, b, c, d] [a, b, c, d] rfl rfl w
    simpa [bv] using this
  clear hb3 hcell
  go_wp2_with fail
  refine (sum_any [0, 1, 242, 3] (by unfold Small; simp) (by decide) _ 4 _ S4.out).mono ?_
  rintro e w4 ⟨rfl, rfl⟩
  rw [ex_sum]
  go_wp2_with fail
  go_ret
  exact ⟨rfl, B2.out.trans ((B3.out.alloc B3.out.size _).mono B2.out.size)⟩
end Go.Proofs.Ytjembpchgemhnaa.Head
