/- The chapter's example of floodgate's disk layer holds; sectors as literals and held against one another. There are no conditions. -/
import Derived.Test.YtndcgofjhlndgaaFgDiskNew
set_option linter.unusedVariables false
set_option linter.unusedSimpArgs false
namespace Go.Proofs.Ytndcgofjhlndgaa.Disk
open Go.RowKit Go.Proofs.Ytndcgofjhlndgaa.Fg

/-- A sector that begins with one byte, with two. -/
def sec1 (b : Int) : List Int := b :: List.replicate 63 0
def sec2 (a b : Int) : List Int := a :: b :: List.replicate 62 0
theorem sec1_len (b : Int) : (sec1 b).length = 64 := by simp [sec1]
theorem sec2_len (a b : Int) : (sec2 a b).length = 64 := by simp [sec2]
theorem byteSize : (Try.prog.info? 5).map (·.size) = some 1 := by kernel_rfl
theorem secBuilt1 (b : Int) : Try.prog.built 25 [(0, .int .u8 b)] = some (bv (sec1 b)).toArray := by
  rw [built_array secZero secUnder byteSize, fill_one 0 1 rfl rfl (by simp [Value.cells, noSec, bv])]
  simp only [Instr.fill, Option.some.injEq]
  congr 1
theorem secBuilt2 (a b : Int) : Try.prog.built 25 [(0, .int .u8 a), (1, .int .u8 b)] = some (bv (sec2 a b)).toArray := by
  rw [built_array secZero secUnder byteSize, fill_one 0 1 rfl rfl (by simp [Value.cells, noSec, bv]), fill_one 1 1 rfl rfl (by simp [Value.cells, noSec, bv, lay])]
  simp only [Instr.fill, Option.some.injEq]
  congr 1
theorem sec_eq (xs ys : List Int) (hx : xs.length = 64) (hy : ys.length = 64) (w : World) : (Op.equalIn 10000 25 (.agg (bv xs).toArray) (.agg (bv ys).toArray)).run Try.prog w = .ok (decide (xs = ys)) w := by
  obtain ⟨i, hi, -⟩ := Option.map_eq_some_iff.1 byteSize
  exact eq_bytes (P := Try.prog) 9998 secUnder Try.underlying5 hi (by kernel_rfl) (by kernel_rfl) xs ys hx hy w
theorem src_bools (w : World) (l : List Bool) (hn : l.length ≤ maxLen) : Fg.Src (w.alloc (.cells (blv l).toArray 4)) (some ⟨w.heap.size, 0, none⟩) l.length l.length (blv l) := src_rows w (blv l) _ _ hn

/-- A disk that a law has made: all that it is made of is new. -/
structure LD (W w : World) (g : Nat) (d : Dk) (F : Nat → Prop) : Prop where
  disk : IsDisk w g d F
  below : Below W.heap.size W w
  base : ∀ k, F k → W.heap.size ≤ k
theorem LD.turn {W w w' : World} {g : Nat} {d d' : Dk} {F : Nat → Prop} (h : LD W w g d F) (t : Turned w g d' F w') : ∃ F', LD W w' g d' F' ∧ Keep F w w' ∧ ∀ k, F' k → F k ∨ w.heap.size ≤ k := by
  obtain ⟨F', h1, h2, h3⟩ := t
  refine ⟨F', ⟨h1, Keep.below ((Keep.of_below h.below).trans h2 (fun i _ hi => h.base i hi)) (Nat.le_refl _) (fun i h => h), fun k hk => ?_⟩, h2, h3⟩
  rcases h3 k hk with h' | h'
  · exact h.base k h'
  · have := h.below.size; omega
theorem LD.later {W w w' : World} {g : Nat} {d : Dk} {F : Nat → Prop} (h : LD W w g d F) (hb : Below w.heap.size w w') : LD W w' g d F :=
  ⟨h.disk.below hb, h.below.trans (hb.mono h.below.size), h.base⟩
theorem LD.keep {W w w' : World} {g : Nat} {d : Dk} {F : Nat → Prop} (h : LD W w g d F) {b : Nat} (hb : w.heap.size ≤ b) (hk : Keep (fun k => b ≤ k) w w') : LD W w' g d F :=
  ⟨h.disk.keep hk (fun k hF => by have := h.disk.lt k hF; omega), Keep.below ((Keep.of_below h.below).trans hk (fun i _ hi => by have := h.below.size; omega)) (Nat.le_refl _) (fun i h => h), h.base⟩

set_option maxRecDepth 100000 in
set_option maxHeartbeats 2000000 in
theorem alive_any (w : World) : Calls Try.prog 10 #[] w fun e w' => e = .returned (.bool true) ∧ Below w.heap.size w w' := by
  obtain ⟨d0, h0⟩ : ∃ d, Dk.new 2 = d := ⟨_, rfl⟩
  obtain ⟨d1, h1⟩ : ∃ d, d0.put 1 (sec1 1) = d := ⟨_, rfl⟩
  obtain ⟨d2, h2⟩ : ∃ d, d1.put 1 (sec1 2) = d := ⟨_, rfl⟩
  obtain ⟨d3, h3⟩ : ∃ d, d2.crash [true, false] = d := ⟨_, rfl⟩
  have E1 : Hid (d0.putE 1 = 0) := Lib.hid (by rw [← h0]; rfl)
  have E2 : Hid (d1.putE 1 = 0) := Lib.hid (by rw [← h1, ← h0]; rfl)
  have E3 : Hid (d2.read 1 = sec1 2 ∧ d2.sErr 1 = 0) := Lib.hid (by rw [← h2, ← h1, ← h0]; exact ⟨rfl, rfl⟩)
  have E4 : Hid (d3.read 1 = sec1 1 ∧ d3.sErr 1 = 0 ∧ d3.st.length = 2) := Lib.hid (by rw [← h3, ← h2, ← h1, ← h0]; exact ⟨rfl, rfl, rfl⟩)
  have N0 : Hid (d0.pd.length < 1000000) := Lib.hid (by rw [← h0]; decide)
  have N1 : Hid (d1.pd.length < 1000000) := Lib.hid (by rw [← h1, ← h0]; decide)
  have NW := new_any 2 2 w (by decide)
  have NEW := Lib.hid NW
  have H0 := Lib.hid h0
  have H1 := Lib.hid h1
  have H2 := Lib.hid h2
  have H3 := Lib.hid h3
  clear h0 h1 h2 h3 NW
  go_enter Try.func10, Try.ntmps10
  go_wp2_with fail
  refine NEW.out.mono ?_
  rintro e w1 ⟨g, F, rfl, hd, hb, hF⟩
  rw [H0.out] at hd
  have L1 : LD w w1 g d0 F := ⟨hd, hb, hF⟩
  have LL1 := Lib.hid L1
  have W1 := Lib.hid (write_any hd 1 (sec1 1) (sec1_len 1) N0.out)
  rw [H1.out, E1.out] at W1
  clear hd hb hF NEW L1
  go_wp2_with (refine wpList_build_list_g (by simp [Region.wanted, yielded, Act.put]) 25 #[(0, .const (.int .u8 1))] rfl [(0, .int .u8 1)] rfl (bv (sec1 1)).toArray (secBuilt1 1) ?_)
  refine W1.out.mono ?_
  rintro e w2 ⟨rfl, ht⟩
  obtain ⟨F2, l2, -, -⟩ := LL1.out.turn ht
  have LL2 := Lib.hid l2
  have W2 := Lib.hid (write_any l2.disk 1 (sec1 2) (sec1_len 2) N1.out)
  rw [H2.out, E2.out] at W2
  clear ht l2 W1
  go_wp2_with (refine wpList_build_list_g (by simp [Region.wanted, yielded, Act.put]) 25 #[(0, .const (.int .u8 2))] rfl [(0, .int .u8 2)] rfl (bv (sec1 2)).toArray (secBuilt1 2) ?_)
  refine W2.out.mono ?_
  rintro e w3 ⟨rfl, ht⟩
  obtain ⟨F3, l3, -, -⟩ := LL2.out.turn ht
  have LL3 := Lib.hid l3
  clear ht l3 W2
  go_wp2_with fail
  refine (read_any LL3.out.disk 1).mono ?_
  rintro e w4 ⟨rfl, hb4⟩
  rw [E3.out.1, E3.out.2]
  have LL4 := Lib.hid (LL3.out.later hb4)
  clear hb4
  have R0 := Lib.hid (heap_alloc_at w4 (.cells (bv noSec).toArray 25))
  have R1 := Lib.hid (setRow_at (bv (sec1 2)).toArray R0.out)
  have R2 : Hid (Below w4.heap.size w4 ((w4.alloc (.cells (bv noSec).toArray 25)).setRow w4.heap.size (bv (sec1 2)).toArray)) := Lib.hid (below_setRow ((Below.refl _ _).alloc (Nat.le_refl _) _) (Nat.le_refl _) _)
  have Z0 : ∀ b, Hid ((bv noSec).toArray.size = (bv (sec1 b)).toArray.size) := fun b => Lib.hid (by simp [bv, noSec, sec1])
  have Z1 := fun b => Lib.hid (sec_toArray (sec1_len b))
  have Z2 := fun b => Lib.hid (sec_one (sec1 b))
  go_upto_region 5 with (first
    | refine wpList_alloc_as rfl 25 rfl (bv noSec).toArray secZero ?_
    | refine wpList_store_block rfl 25 (.tmp 2) (.tmp 24) rfl w4.heap.size (bv (sec1 2)).toArray rfl rfl (bv noSec).toArray 25 R0.out (Z1 2).out (Z0 2).out (Z2 2).out ?_)
  generalize (w4.alloc (.cells (bv noSec).toArray 25)).setRow w4.heap.size (bv (sec1 2)).toArray = w5 at *
  have LL5 := Lib.hid (LL4.out.later R2.out)
  have NF : Hid (¬ F3 w4.heap.size) := Lib.hid (fun h => absurd (LL4.out.disk.lt _ h) (Nat.lt_irrefl _))
  have NG : Hid (¬ F3 w5.heap.size) := Lib.hid (fun h => absurd (LL5.out.disk.lt _ h) (Nat.lt_irrefl _))
  have L6 := Lib.hid (LL5.out.later ((Below.refl _ _).alloc (Nat.le_refl _) (.cells #[.bool true, .bool false] 4)))
  have S6 := Lib.hid (src_bools w5 [true, false] (by decide))
  have R6 : Hid ((w5.alloc (.cells #[.bool true, .bool false] 4)).heap[w4.heap.size]? = some (.cells (bv (sec1 2)).toArray 25)) := Lib.hid ((heap_alloc_old _ _ (block_lt R1.out)).trans R1.out)
  have C6 := Lib.hid (crash_any L6.out.disk [true, false] (some ⟨w5.heap.size, 0, none⟩) 2 S6.out (fun ad had => by injection had with had; subst had; exact NG.out))
  go_wp2_with fail
  refine C6.out.mono ?_
  rintro e w7 ⟨rfl, ht⟩
  rw [H3.out] at ht
  obtain ⟨F7, l7, k7, -⟩ := L6.out.turn ht
  have LL7 := Lib.hid l7
  have R7 := Lib.hid ((k7.block _ (block_lt R6.out) NF.out).trans R6.out)
  clear ht l7 k7 C6
  go_wp2_with fail
  refine (read_any LL7.out.disk 1).mono ?_
  rintro e w8 ⟨rfl, hb8⟩
  rw [E4.out.1, E4.out.2.1]
  have LL8 := Lib.hid (LL7.out.later hb8)
  have R8 := Lib.hid ((hb8.block _ (block_lt R7.out)).trans R7.out)
  clear hb8
  have Q0 := Lib.hid (heap_alloc_at w8 (.cells (bv noSec).toArray 25))
  have Q1 := Lib.hid (setRow_at (bv (sec1 1)).toArray Q0.out)
  have Q2 : Hid (Below w8.heap.size w8 ((w8.alloc (.cells (bv noSec).toArray 25)).setRow w8.heap.size (bv (sec1 1)).toArray)) := Lib.hid (below_setRow ((Below.refl _ _).alloc (Nat.le_refl _) _) (Nat.le_refl _) _)
  go_upto_region 7 with (first
    | refine wpList_alloc_as rfl 25 rfl (bv noSec).toArray secZero ?_
    | refine wpList_store_block rfl 25 (.tmp 4) (.tmp 32) rfl w8.heap.size (bv (sec1 1)).toArray rfl rfl (bv noSec).toArray 25 Q0.out (Z1 1).out (Z0 1).out (Z2 1).out ?_)
  generalize (w8.alloc (.cells (bv noSec).toArray 25)).setRow w8.heap.size (bv (sec1 1)).toArray = w9 at *
  have LL9 := Lib.hid (LL8.out.later Q2.out)
  have R9 := Lib.hid ((Q2.out.block _ (block_lt R8.out)).trans R8.out)
  have q1 : ∀ w : World, (Op.equalIn 10000 25 (.agg (bv (sec1 1)).toArray) (.agg (bv (sec1 1)).toArray)).run Try.prog w = .ok true w := fun w => by rw [sec_eq _ _ (sec1_len 1) (sec1_len 1)]; simp
  have q2 : ∀ w : World, (Op.equalIn 10000 25 (.agg (bv (sec1 2)).toArray) (.agg (bv (sec1 2)).toArray)).run Try.prog w = .ok true w := fun w => by rw [sec_eq _ _ (sec1_len 2) (sec1_len 2)]; simp
  go_wp2_with (first
    | refine wpList_load_block_g (by simp [Region.wanted, yielded, Act.put]) 25 (.tmp 2) rfl w4.heap.size rfl (bv (sec1 2)).toArray 25 (0, 0) R9.out _ secUnder rfl (Z1 2).out ?_
    | refine wpList_load_block_g (by simp [Region.wanted, yielded, Act.put]) 25 (.tmp 4) rfl w8.heap.size rfl (bv (sec1 1)).toArray 25 (0, 0) Q1.out _ secUnder rfl (Z1 1).out ?_
    | refine wpList_build_list_g (by simp [Region.wanted, yielded, Act.put]) 25 #[(0, .const (.int .u8 2))] rfl [(0, .int .u8 2)] rfl (bv (sec1 2)).toArray (secBuilt1 2) ?_
    | refine wpList_build_list_g (by simp [Region.wanted, yielded, Act.put]) 25 #[(0, .const (.int .u8 1))] rfl [(0, .int .u8 1)] rfl (bv (sec1 1)).toArray (secBuilt1 1) ?_)
  refine (len_any LL9.out.disk).mono ?_
  rintro e w10 ⟨rfl, rfl⟩
  rw [E4.out.2.2]
  go_wp2_with fail
  go_ret
  exact ⟨rfl, LL9.out.below⟩
end Go.Proofs.Ytndcgofjhlndgaa.Disk
