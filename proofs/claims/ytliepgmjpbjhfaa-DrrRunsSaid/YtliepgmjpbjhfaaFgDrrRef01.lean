/- Contract of the document's saturating sum. Conditions: none beyond each lemma's own hypotheses. -/
import Derived.Test.YtliepgmjpbjhfaaFgDrrShares
set_option linter.unusedVariables false
set_option linter.unusedSimpArgs false
namespace Go.Proofs.Ytliepgmjpbjhfaa.Drr
open Go.RowKit Go.Proofs.Ytliepgmjpbjhfaa.Fg Go.Shelf Go.Maps

def wd (a b c d : Int) : Value := .agg #[.int .u64 a, .int .u64 b, .int .u64 c, .int .u64 d]
set_option maxRecDepth 100000 in
theorem of01_any (x : Int) (hx : 0 ≤ x ∧ x < 18446744073709551616) (w : World) :
    Calls Try.prog 46 #[.int .u64 x] w fun e w' => e = .returned (wd (x % 4294967296) (x / 4294967296) 0 0) ∧ Below w.heap.size w w' := by
  unfold wd
  go_enter Try.func46, Try.ntmps46
  have HB : Hid (Below w.heap.size w ((w.alloc (.cells #[.int .u64 0, .int .u64 0, .int .u64 0, .int .u64 0] 86)))) := Lib.hid ((Below.refl _ _).alloc (Nat.le_refl _) _)
  go_wp2_with fail
  have HB2 : Hid (Below w.heap.size w (w.alloc (.cells #[.int .u64 (x % 4294967296), .int .u64 (x / 4294967296), .int .u64 0, .int .u64 0] 86))) := Lib.hid ((Below.refl _ _).alloc (Nat.le_refl _) _)
  have HC := heap_alloc_at w (.cells #[.int .u64 (x % 4294967296), .int .u64 (x / 4294967296), .int .u64 0, .int .u64 0] 86)
  have z0 := cell_of_block HC 0
  have z1 := cell_of_block HC 1
  have z2 := cell_of_block HC 2
  have z3 := cell_of_block HC 3
  exact bodyPost_ret (v := .agg #[.int .u64 (x % 4294967296), .int .u64 (x / 4294967296), .int .u64 0, .int .u64 0]) (by simp [results, Try.results46, go_sem, z0, z1, z2, z3]) rfl ⟨rfl, HB2.out⟩
set_option maxRecDepth 100000 in
theorem cut01_any (a b c d : Int) (ha : 0 ≤ a ∧ a < 4294967296) (hb : 0 ≤ b ∧ b < 4294967296) (hc : 0 ≤ c ∧ c ≤ 1) (w : World) :
    Calls Try.prog 44 #[wd a b c 0] w fun e w' => e = .returned (.int .u64 (if c = 0 then b * 4294967296 + a else 18446744073709551615)) ∧ Below w.heap.size w w' := by
  unfold wd
  have HB : Hid (Below w.heap.size w ((w.alloc (.cells #[.int .u64 a, .int .u64 b, .int .u64 c, .int .u64 0] 86)))) := Lib.hid ((Below.refl _ _).alloc (Nat.le_refl _) _)
  have W0 : IntKind.u64.wrap (c + 0) = c := by rw [Int.add_zero]; exact wrap64 (by omega) (by omega)
  by_cases h : c = 0
  · subst h
    have W1 : IntKind.u64.wrap (b * 4294967296) = b * 4294967296 := wrap64 (by omega) (by omega)
    have W2 : IntKind.u64.wrap (b * 4294967296 + a) = b * 4294967296 + a := wrap64 (by omega) (by omega)
    go_enter Try.func44, Try.ntmps44
    go_wp2_with fail
    go_ret
    exact ⟨rfl, HB.out⟩
  · have h1 : c = 1 := by omega
    subst h1
    go_enter Try.func44, Try.ntmps44
    go_wp2_with fail
    go_ret
    exact ⟨rfl, HB.out⟩
set_option maxRecDepth 100000 in
set_option maxHeartbeats 2000000 in
theorem plus01_any (a0 a1 b0 b1 c1 o0 o1 cc : Int) (ha0 : 0 ≤ a0 ∧ a0 < 4294967296) (ha1 : 0 ≤ a1 ∧ a1 < 4294967296) (hb0 : 0 ≤ b0 ∧ b0 < 4294967296) (hb1 : 0 ≤ b1 ∧ b1 < 4294967296)
    (e0 : (a0 + b0) % 4294967296 = o0) (e1 : (a0 + b0) / 4294967296 = c1) (e2 : (a1 + b1 + c1) % 4294967296 = o1) (e3 : (a1 + b1 + c1) / 4294967296 = cc) (w : World) :
    Calls Try.prog 45 #[wd a0 a1 0 0, wd b0 b1 0 0] w fun e w' => e = .returned (wd o0 o1 cc 0) ∧ Below w.heap.size w w' := by
  unfold wd
  have hc1 : 0 ≤ c1 ∧ c1 ≤ 1 := by omega
  have hcc : 0 ≤ cc ∧ cc ≤ 1 := by omega
  have W0 : IntKind.u64.wrap (a0 + b0) = a0 + b0 := wrap64 (by omega) (by omega)
  have W1 : IntKind.u64.wrap (a1 + b1) = a1 + b1 := wrap64 (by omega) (by omega)
  have W2 : IntKind.u64.wrap (a1 + b1 + c1) = a1 + b1 + c1 := wrap64 (by omega) (by omega)
  have W3 : cc % 4294967296 = cc := by omega
  have W4 : cc / 4294967296 = 0 := by omega
  have W5 : IntKind.u64.wrap cc = cc := wrap64 (by omega) (by omega)
  clear ha0 ha1 hb0 hb1
  obtain ⟨w4, hw4⟩ : ∃ w4, (((w.alloc (.cells #[.int .u64 a0, .int .u64 a1, .int .u64 0, .int .u64 0] 86)).alloc (.cells #[.int .u64 b0, .int .u64 b1, .int .u64 0, .int .u64 0] 86)).alloc (.cells #[.int .u64 0, .int .u64 0, .int .u64 0, .int .u64 0] 86)).alloc (.cells #[.int .u64 0, .int .u64 0, .int .u64 0, .int .u64 0] 86) = w4 := ⟨_, rfl⟩
  have hB : Below w.heap.size w w4 := by rw [← hw4]; exact ((((Below.refl _ _).alloc (Nat.le_refl _) _).alloc (by simp) _).alloc (by simp; try omega) _).alloc (by simp; try omega) _
  have k2 : w4.heap[w.heap.size]? = some (.cells #[.int .u64 a0, .int .u64 a1, .int .u64 0, .int .u64 0] 86 (0, 0)) := by rw [← hw4, heap_alloc_old _ _ (by simp; try omega), heap_alloc_old _ _ (by simp; try omega), heap_alloc_old _ _ (by simp; try omega)]; exact heap_alloc_at w _
  have k3 : w4.heap[w.heap.size + 1]? = some (.cells #[.int .u64 b0, .int .u64 b1, .int .u64 0, .int .u64 0] 86 (0, 0)) := by
    rw [← hw4, heap_alloc_old _ _ (by simp; try omega), heap_alloc_old _ _ (by simp; try omega)]
    have := heap_alloc_at (w.alloc (.cells #[.int .u64 a0, .int .u64 a1, .int .u64 0, .int .u64 0] 86)) (.cells #[.int .u64 b0, .int .u64 b1, .int .u64 0, .int .u64 0] 86)
    simpa using this
  have k4 : w4.heap[w.heap.size + 1 + 1]? = some (.cells #[.int .u64 0, .int .u64 0, .int .u64 0, .int .u64 0] 86 (0, 0)) := by
    rw [← hw4, heap_alloc_old _ _ (by simp; try omega)]
    have := heap_alloc_at ((w.alloc (.cells #[.int .u64 a0, .int .u64 a1, .int .u64 0, .int .u64 0] 86)).alloc (.cells #[.int .u64 b0, .int .u64 b1, .int .u64 0, .int .u64 0] 86)) (.cells #[.int .u64 0, .int .u64 0, .int .u64 0, .int .u64 0] 86)
    simpa using this
  have k5 : w4.heap[w.heap.size + 1 + 1 + 1]? = some (.cells #[.int .u64 0, .int .u64 0, .int .u64 0, .int .u64 0] 86 (0, 0)) := by
    rw [← hw4]
    have := heap_alloc_at (((w.alloc (.cells #[.int .u64 a0, .int .u64 a1, .int .u64 0, .int .u64 0] 86)).alloc (.cells #[.int .u64 b0, .int .u64 b1, .int .u64 0, .int .u64 0] 86)).alloc (.cells #[.int .u64 0, .int .u64 0, .int .u64 0, .int .u64 0] 86)) (.cells #[.int .u64 0, .int .u64 0, .int .u64 0, .int .u64 0] 86)
    simpa using this
  have HB := Lib.hid hB
  have H2 := Lib.hid k2
  have H3 := Lib.hid k3
  have H4 := Lib.hid k4
  have H5 := Lib.hid k5
  have HW4 := Lib.hid hw4
  clear hB k2 k3 k4 k5 hw4
  go_enter Try.func45, Try.ntmps45
  go_wp2_with fail
  rw [HW4.out]
  obtain ⟨p2, hp2⟩ : ∃ p, w.heap.size = p := ⟨_, rfl⟩
  obtain ⟨p3, hp3⟩ : ∃ p, w.heap.size + 1 = p := ⟨_, rfl⟩
  obtain ⟨p4, hp4⟩ : ∃ p, p3 + 1 = p := ⟨_, rfl⟩
  obtain ⟨p5, hp5⟩ : ∃ p, p4 + 1 = p := ⟨_, rfl⟩
  have NE : Hid (w.heap.size ≤ p5 ∧ p2 ≠ p5 ∧ p3 ≠ p5 ∧ p4 ≠ p5) := Lib.hid (by omega)
  have NE4 : Hid (w.heap.size ≤ p4) := Lib.hid (by omega)
  rw [hp2] at H2
  rw [hp3] at H3
  rw [hp3, hp4] at H4
  rw [hp3, hp4, hp5] at H5
  simp only [hp3, hp4, hp5]
  go_loopg [10, 6] 4 (fun k i x wr => ((k = 4 ∧ i = .int .i64 0 ∧ x = .int .u64 0 ∧ wr.heap[p5]? = some (.cells #[.int .u64 0, .int .u64 0, .int .u64 0, .int .u64 0] 86 (0, 0))) ∨ (k = 3 ∧ i = .int .i64 1 ∧ x = .int .u64 c1 ∧ wr.heap[p5]? = some (.cells #[.int .u64 o0, .int .u64 0, .int .u64 0, .int .u64 0] 86 (0, 0))) ∨ (k = 2 ∧ i = .int .i64 2 ∧ x = .int .u64 cc ∧ wr.heap[p5]? = some (.cells #[.int .u64 o0, .int .u64 o1, .int .u64 0, .int .u64 0] 86 (0, 0))) ∨ (k = 1 ∧ i = .int .i64 3 ∧ x = .int .u64 0 ∧ wr.heap[p5]? = some (.cells #[.int .u64 o0, .int .u64 o1, .int .u64 cc, .int .u64 0] 86 (0, 0))) ∨ (k = 0 ∧ i = .int .i64 4 ∧ x = .int .u64 0 ∧ wr.heap[p5]? = some (.cells #[.int .u64 o0, .int .u64 o1, .int .u64 cc, .int .u64 0] 86 (0, 0)))) ∧ Below w.heap.size w wr ∧ wr.heap[p2]? = some (.cells #[.int .u64 a0, .int .u64 a1, .int .u64 0, .int .u64 0] 86 (0, 0)) ∧ wr.heap[p3]? = some (.cells #[.int .u64 b0, .int .u64 b1, .int .u64 0, .int .u64 0] 86 (0, 0)) ∧ wr.heap[p4]? = some (.cells #[.int .u64 0, .int .u64 0, .int .u64 0, .int .u64 0] 86 (0, 0)))
  case atStart => exact ⟨.inl ⟨rfl, rfl, rfl, H5.out⟩, HB.out, H2.out, H3.out, H4.out⟩
  case round =>
    obtain ⟨hcase, hb, hk2, hk3, hk4⟩ := hrel
    have BW := Lib.hid hb
    have K2 := Lib.hid hk2
    have K3 := Lib.hid hk3
    have K4 := Lib.hid hk4
    clear hb hk2 hk3 hk4
    rcases hcase with ⟨rfl, rfl, rfl, h4⟩ | ⟨rfl, rfl, rfl, h4⟩ | ⟨rfl, rfl, rfl, h4⟩ | ⟨rfl, rfl, rfl, h4⟩ | ⟨rfl, rfl, rfl, h4⟩
    · have ca : wr.drew.cell? ⟨p2, 0, none⟩ = some (.int .u64 a0) := cell_of_block (w := wr) K2.out 0
      have cb : wr.drew.cell? ⟨p3, 0, none⟩ = some (.int .u64 b0) := cell_of_block (w := wr) K3.out 0
      have D5 : Hid (wr.drew.heap[p5]? = some (.cells #[.int .u64 0, .int .u64 0, .int .u64 0, .int .u64 0] 86 (0, 0))) := Lib.hid h4
      have c5 : wr.drew.cell? ⟨p5, 0, none⟩ = some (.int .u64 0) := cell_of_block (w := wr) h4 0
      have f5 : wr.drew.frozen? ⟨p5, 0, none⟩ = false := free_of_block (w := wr) h4 0
      have NX : Hid (Below w.heap.size w (wr.drew.setCell ⟨p5, 0, none⟩ (.int .u64 o0)) ∧ (wr.drew.setCell ⟨p5, 0, none⟩ (.int .u64 o0)).heap[p2]? = some (.cells #[.int .u64 a0, .int .u64 a1, .int .u64 0, .int .u64 0] 86 (0, 0)) ∧ (wr.drew.setCell ⟨p5, 0, none⟩ (.int .u64 o0)).heap[p3]? = some (.cells #[.int .u64 b0, .int .u64 b1, .int .u64 0, .int .u64 0] 86 (0, 0)) ∧ (wr.drew.setCell ⟨p5, 0, none⟩ (.int .u64 o0)).heap[p4]? = some (.cells #[.int .u64 0, .int .u64 0, .int .u64 0, .int .u64 0] 86 (0, 0)) ∧ (wr.drew.setCell ⟨p5, 0, none⟩ (.int .u64 o0)).heap[p5]? = some (.cells #[.int .u64 o0, .int .u64 0, .int .u64 0, .int .u64 0] 86 (0, 0))) := Lib.hid
        ⟨(below_dr BW.out).setCell (p := ⟨p5, 0, none⟩) NE.out.1 _, (hset_other _ _ _ NE.out.2.1).trans K2.out, (hset_other _ _ _ NE.out.2.2.1).trans K3.out, (hset_other _ _ _ NE.out.2.2.2).trans K4.out, hset_at wr.drew p5 0 (.int .u64 o0) D5.out⟩
      clear h4
      go_upto_region 6 with fail
      go_region_held3 (fun w' => w'.cell? ⟨p2, 0, none⟩ = some (.int .u64 a0) ∧ w'.cell? ⟨p3, 0, none⟩ = some (.int .u64 b0)) (exact ⟨ca, cb⟩) (fail)
      go_wp2_with fail
      go_roundg 3
      case measure => omega
      case rel => exact ⟨.inr (.inl ⟨rfl, by first | rfl | go_num, by first | rfl | rw [e1] | rw [e3] | rw [Int.zero_add, W4], NX.out.2.2.2.2⟩), NX.out.1, NX.out.2.1, NX.out.2.2.1, NX.out.2.2.2.1⟩
    · have ca : wr.drew.cell? ⟨p2, 1, none⟩ = some (.int .u64 a1) := cell_of_block (w := wr) K2.out 1
      have cb : wr.drew.cell? ⟨p3, 1, none⟩ = some (.int .u64 b1) := cell_of_block (w := wr) K3.out 1
      have D5 : Hid (wr.drew.heap[p5]? = some (.cells #[.int .u64 o0, .int .u64 0, .int .u64 0, .int .u64 0] 86 (0, 0))) := Lib.hid h4
      have c5 : wr.drew.cell? ⟨p5, 1, none⟩ = some (.int .u64 0) := cell_of_block (w := wr) h4 1
      have f5 : wr.drew.frozen? ⟨p5, 1, none⟩ = false := free_of_block (w := wr) h4 1
      have NX : Hid (Below w.heap.size w (wr.drew.setCell ⟨p5, 1, none⟩ (.int .u64 o1)) ∧ (wr.drew.setCell ⟨p5, 1, none⟩ (.int .u64 o1)).heap[p2]? = some (.cells #[.int .u64 a0, .int .u64 a1, .int .u64 0, .int .u64 0] 86 (0, 0)) ∧ (wr.drew.setCell ⟨p5, 1, none⟩ (.int .u64 o1)).heap[p3]? = some (.cells #[.int .u64 b0, .int .u64 b1, .int .u64 0, .int .u64 0] 86 (0, 0)) ∧ (wr.drew.setCell ⟨p5, 1, none⟩ (.int .u64 o1)).heap[p4]? = some (.cells #[.int .u64 0, .int .u64 0, .int .u64 0, .int .u64 0] 86 (0, 0)) ∧ (wr.drew.setCell ⟨p5, 1, none⟩ (.int .u64 o1)).heap[p5]? = some (.cells #[.int .u64 o0, .int .u64 o1, .int .u64 0, .int .u64 0] 86 (0, 0))) := Lib.hid
        ⟨(below_dr BW.out).setCell (p := ⟨p5, 1, none⟩) NE.out.1 _, (hset_other _ _ _ NE.out.2.1).trans K2.out, (hset_other _ _ _ NE.out.2.2.1).trans K3.out, (hset_other _ _ _ NE.out.2.2.2).trans K4.out, hset_at wr.drew p5 1 (.int .u64 o1) D5.out⟩
      clear h4
      go_upto_region 6 with fail
      go_region_held3 (fun w' => w'.cell? ⟨p2, 1, none⟩ = some (.int .u64 a1) ∧ w'.cell? ⟨p3, 1, none⟩ = some (.int .u64 b1)) (exact ⟨ca, cb⟩) (fail)
      go_wp2_with fail
      go_roundg 2
      case measure => omega
      case rel => exact ⟨.inr (.inr (.inl ⟨rfl, by first | rfl | go_num, by first | rfl | rw [e1] | rw [e3] | rw [Int.zero_add, W4], NX.out.2.2.2.2⟩)), NX.out.1, NX.out.2.1, NX.out.2.2.1, NX.out.2.2.2.1⟩
    · have ca : wr.drew.cell? ⟨p2, 2, none⟩ = some (.int .u64 0) := cell_of_block (w := wr) K2.out 2
      have cb : wr.drew.cell? ⟨p3, 2, none⟩ = some (.int .u64 0) := cell_of_block (w := wr) K3.out 2
      have D5 : Hid (wr.drew.heap[p5]? = some (.cells #[.int .u64 o0, .int .u64 o1, .int .u64 0, .int .u64 0] 86 (0, 0))) := Lib.hid h4
      have c5 : wr.drew.cell? ⟨p5, 2, none⟩ = some (.int .u64 0) := cell_of_block (w := wr) h4 2
      have f5 : wr.drew.frozen? ⟨p5, 2, none⟩ = false := free_of_block (w := wr) h4 2
      have NX : Hid (Below w.heap.size w (wr.drew.setCell ⟨p5, 2, none⟩ (.int .u64 cc)) ∧ (wr.drew.setCell ⟨p5, 2, none⟩ (.int .u64 cc)).heap[p2]? = some (.cells #[.int .u64 a0, .int .u64 a1, .int .u64 0, .int .u64 0] 86 (0, 0)) ∧ (wr.drew.setCell ⟨p5, 2, none⟩ (.int .u64 cc)).heap[p3]? = some (.cells #[.int .u64 b0, .int .u64 b1, .int .u64 0, .int .u64 0] 86 (0, 0)) ∧ (wr.drew.setCell ⟨p5, 2, none⟩ (.int .u64 cc)).heap[p4]? = some (.cells #[.int .u64 0, .int .u64 0, .int .u64 0, .int .u64 0] 86 (0, 0)) ∧ (wr.drew.setCell ⟨p5, 2, none⟩ (.int .u64 cc)).heap[p5]? = some (.cells #[.int .u64 o0, .int .u64 o1, .int .u64 cc, .int .u64 0] 86 (0, 0))) := Lib.hid
        ⟨(below_dr BW.out).setCell (p := ⟨p5, 2, none⟩) NE.out.1 _, (hset_other _ _ _ NE.out.2.1).trans K2.out, (hset_other _ _ _ NE.out.2.2.1).trans K3.out, (hset_other _ _ _ NE.out.2.2.2).trans K4.out, hset_at wr.drew p5 2 (.int .u64 cc) D5.out⟩
      clear h4
      go_upto_region 6 with fail
      go_region_held3 (fun w' => w'.cell? ⟨p2, 2, none⟩ = some (.int .u64 0) ∧ w'.cell? ⟨p3, 2, none⟩ = some (.int .u64 0)) (exact ⟨ca, cb⟩) (fail)
      go_wp2_with fail
      go_roundg 1
      case measure => omega
      case rel => exact ⟨.inr (.inr (.inr (.inl ⟨rfl, by first | rfl | go_num, by first | rfl | rw [e1] | rw [e3] | rw [Int.zero_add, W4], NX.out.2.2.2.2⟩))), NX.out.1, NX.out.2.1, NX.out.2.2.1, NX.out.2.2.2.1⟩
    · have ca : wr.drew.cell? ⟨p2, 3, none⟩ = some (.int .u64 0) := cell_of_block (w := wr) K2.out 3
      have cb : wr.drew.cell? ⟨p3, 3, none⟩ = some (.int .u64 0) := cell_of_block (w := wr) K3.out 3
      have D5 : Hid (wr.drew.heap[p5]? = some (.cells #[.int .u64 o0, .int .u64 o1, .int .u64 cc, .int .u64 0] 86 (0, 0))) := Lib.hid h4
      have c5 : wr.drew.cell? ⟨p5, 3, none⟩ = some (.int .u64 0) := cell_of_block (w := wr) h4 3
      have f5 : wr.drew.frozen? ⟨p5, 3, none⟩ = false := free_of_block (w := wr) h4 3
      have NX : Hid (Below w.heap.size w (wr.drew.setCell ⟨p5, 3, none⟩ (.int .u64 0)) ∧ (wr.drew.setCell ⟨p5, 3, none⟩ (.int .u64 0)).heap[p2]? = some (.cells #[.int .u64 a0, .int .u64 a1, .int .u64 0, .int .u64 0] 86 (0, 0)) ∧ (wr.drew.setCell ⟨p5, 3, none⟩ (.int .u64 0)).heap[p3]? = some (.cells #[.int .u64 b0, .int .u64 b1, .int .u64 0, .int .u64 0] 86 (0, 0)) ∧ (wr.drew.setCell ⟨p5, 3, none⟩ (.int .u64 0)).heap[p4]? = some (.cells #[.int .u64 0, .int .u64 0, .int .u64 0, .int .u64 0] 86 (0, 0)) ∧ (wr.drew.setCell ⟨p5, 3, none⟩ (.int .u64 0)).heap[p5]? = some (.cells #[.int .u64 o0, .int .u64 o1, .int .u64 cc, .int .u64 0] 86 (0, 0))) := Lib.hid
        ⟨(below_dr BW.out).setCell (p := ⟨p5, 3, none⟩) NE.out.1 _, (hset_other _ _ _ NE.out.2.1).trans K2.out, (hset_other _ _ _ NE.out.2.2.1).trans K3.out, (hset_other _ _ _ NE.out.2.2.2).trans K4.out, hset_at wr.drew p5 3 (.int .u64 0) D5.out⟩
      clear h4
      go_upto_region 6 with fail
      go_region_held3 (fun w' => w'.cell? ⟨p2, 3, none⟩ = some (.int .u64 0) ∧ w'.cell? ⟨p3, 3, none⟩ = some (.int .u64 0)) (exact ⟨ca, cb⟩) (fail)
      go_wp2_with fail
      go_roundg 0
      case measure => omega
      case rel => exact ⟨.inr (.inr (.inr (.inr (⟨rfl, by first | rfl | go_num, by first | rfl | rw [e1] | rw [e3] | rw [Int.zero_add, W4], NX.out.2.2.2.2⟩)))), NX.out.1, NX.out.2.1, NX.out.2.2.1, NX.out.2.2.2.1⟩
    · have y0 := cell_of_block h4 0
      have y1 := cell_of_block h4 1
      have y2 := cell_of_block h4 2
      have y3 := cell_of_block h4 3
      have x0 := cell_of_block K4.out 0
      have x1 := cell_of_block K4.out 1
      have x2 := cell_of_block K4.out 2
      have x3 := cell_of_block K4.out 3
      have g0 := free_of_block K4.out 0
      have g1 := free_of_block K4.out 1
      have g2 := free_of_block K4.out 2
      have g3 := free_of_block K4.out 3
      have q0 := hset_at wr p4 0 (.int .u64 o0) K4.out
      have q1 := hset_at _ p4 1 (.int .u64 o1) q0
      have q2 := hset_at _ p4 2 (.int .u64 cc) q1
      have q3 := hset_at _ p4 3 (.int .u64 0) q2
      have Q3 := Lib.hid q3
      have QB := Lib.hid ((((BW.out.setCell (p := ⟨p4, 0, none⟩) NE4.out (.int .u64 o0)).setCell (p := ⟨p4, 1, none⟩) NE4.out (.int .u64 o1)).setCell (p := ⟨p4, 2, none⟩) NE4.out (.int .u64 cc)).setCell (p := ⟨p4, 3, none⟩) NE4.out (.int .u64 0))
      clear q0 q1 q2 q3
      go_wp2_with fail
      have z0 := cell_of_block Q3.out 0
      have z1 := cell_of_block Q3.out 1
      have z2 := cell_of_block Q3.out 2
      have z3 := cell_of_block Q3.out 3
      exact bodyPost_ret (v := .agg #[.int .u64 o0, .int .u64 o1, .int .u64 cc, .int .u64 0]) (by simp [results, Try.results45, go_sem, z0, z1, z2, z3]) rfl ⟨rfl, QB.out⟩
theorem add01_any (x y : Int) (hx : 0 ≤ x ∧ x < 18446744073709551616) (hy : 0 ≤ y ∧ y < 18446744073709551616) (w : World) :
    Calls Try.prog 38 #[.int .u64 x, .int .u64 y] w fun e w' => e = .returned (.int .u64 (min (x + y) 18446744073709551615)) ∧ Below w.heap.size w w' := by
  obtain ⟨c1, hc1⟩ : ∃ c, (x % 4294967296 + y % 4294967296) / 4294967296 = c := ⟨_, rfl⟩
  obtain ⟨o0, ho0⟩ : ∃ c, (x % 4294967296 + y % 4294967296) % 4294967296 = c := ⟨_, rfl⟩
  obtain ⟨o1, ho1⟩ : ∃ c, (x / 4294967296 + y / 4294967296 + c1) % 4294967296 = c := ⟨_, rfl⟩
  obtain ⟨cc, hcc⟩ : ∃ c, (x / 4294967296 + y / 4294967296 + c1) / 4294967296 = c := ⟨_, rfl⟩
  have O1 := Lib.hid (of01_any x hx w)
  have O2 := Lib.hid (fun w' => of01_any y hy w')
  have PL := Lib.hid (fun w' => plus01_any (x % 4294967296) (x / 4294967296) (y % 4294967296) (y / 4294967296) c1 o0 o1 cc (by omega) (by omega) (by omega) (by omega) ho0 hc1 ho1 hcc w')
  have CT := Lib.hid (fun w' => cut01_any o0 o1 cc 0 (by omega) (by omega) (by omega) w')
  have V : Hid ((if cc = 0 then o1 * 4294967296 + o0 else 18446744073709551615) = min (x + y) 18446744073709551615) := Lib.hid (by split <;> omega)
  clear hc1 ho0 ho1 hcc hx hy
  go_enter Try.func38, Try.ntmps38
  go_wp2_with fail
  refine O1.out.mono ?_
  rintro e w1 ⟨rfl, hb1⟩
  have B1 := Lib.hid hb1
  clear hb1
  go_wp2_with fail
  refine (O2.out w1).mono ?_
  rintro e w2 ⟨rfl, hb2⟩
  have B2 : Hid (Below w.heap.size w w2) := Lib.hid (B1.out.trans (hb2.mono B1.out.size))
  clear hb2
  go_wp2_with fail
  refine (PL.out w2).mono ?_
  rintro e w3 ⟨rfl, hb3⟩
  have B3 : Hid (Below w.heap.size w w3) := Lib.hid (B2.out.trans (hb3.mono B2.out.size))
  clear hb3
  go_wp2_with fail
  refine (CT.out w3).mono ?_
  rintro e w4 ⟨rfl, hb4⟩
  have B4 : Hid (Below w.heap.size w w4) := Lib.hid (B3.out.trans (hb4.mono B3.out.size))
  rw [V.out]
  clear hb4
  go_wp2_with fail
  go_ret
  exact ⟨rfl, B4.out⟩
end Go.Proofs.Ytliepgmjpbjhfaa.Drr
