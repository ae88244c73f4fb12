/- The walk of the law DiskNames of floodgate's disk layer. There are no conditions. -/
import Derived.Test.YtndcgofjhlndgaaFgDiskAlive
set_option linter.unusedVariables false
set_option linter.unusedSimpArgs false
namespace Go.Proofs.Ytndcgofjhlndgaa.Disk
open Go.RowKit Go.Proofs.Ytndcgofjhlndgaa.Fg

set_option maxRecDepth 100000 in
set_option maxHeartbeats 2000000 in
theorem names_any (W : World) : Calls Try.prog 3 #[] W fun e w' => e = .returned (.bool true) ∧ Below W.heap.size W w' := by
  obtain ⟨d0, h0⟩ : ∃ d, Dk.new 1 = d := ⟨_, rfl⟩
  obtain ⟨d1, h1⟩ : ∃ d, d0.brk 0 = d := ⟨_, rfl⟩
  obtain ⟨d2, h2⟩ : ∃ d, d1.sync = d := ⟨_, rfl⟩
  have E0 : Hid (d0.read 1 = noSec ∧ d0.sErr 1 = 71) := Lib.hid (by rw [← h0]; exact ⟨rfl, rfl⟩)
  have E1 : Hid (d1.actE = 72) := Lib.hid (by rw [← h1, ← h0]; rfl)
  have E2 : Hid (d2.down = true) := Lib.hid (by rw [← h2, ← h1, ← h0]; rfl)
  have E3 : Hid ((Dk.new 512).st.length = 512 ∧ (Dk.new 0).st.length = 0) := Lib.hid (by simp [Dk.new])
  have NEW := Lib.hid (new_any 1 1 W (by decide))
  have H0 := Lib.hid h0
  have H1 := Lib.hid h1
  have H2 := Lib.hid h2
  clear h0 h1 h2
  go_enter Try.func3, Try.ntmps3
  go_wp2_with fail
  refine NEW.out.mono ?_
  rintro e w1 ⟨g, F, rfl, hd, hb, hF⟩
  rw [H0.out] at hd
  have L1 : LD W w1 g d0 F := ⟨hd, hb, hF⟩
  have LL1 := Lib.hid L1
  clear hd hb hF NEW L1
  go_wp2_with fail
  refine (read_any LL1.out.disk 1).mono ?_
  rintro e w2 ⟨rfl, hb2⟩
  rw [E0.out.1, E0.out.2]
  have LL2 := Lib.hid (LL1.out.later hb2)
  clear hb2
  have R0 := Lib.hid (heap_alloc_at w2 (.cells (bv noSec).toArray 25))
  have R2 : Hid (Below w2.heap.size w2 ((w2.alloc (.cells (bv noSec).toArray 25)).setRow w2.heap.size (bv noSec).toArray)) := Lib.hid (below_setRow ((Below.refl _ _).alloc (Nat.le_refl _) _) (Nat.le_refl _) _)
  have Z1 := Lib.hid (sec_toArray Dk.noSec_len)
  have Z2 := Lib.hid (sec_one noSec)
  go_upto_region 3 with (first
    | refine wpList_alloc_as rfl 25 rfl (bv noSec).toArray secZero ?_
    | refine wpList_store_block rfl 25 (.tmp 2) (.tmp 8) rfl w2.heap.size (bv noSec).toArray rfl rfl (bv noSec).toArray 25 R0.out Z1.out rfl Z2.out ?_)
  generalize (w2.alloc (.cells (bv noSec).toArray 25)).setRow w2.heap.size (bv noSec).toArray = w3 at *
  have LL3 := Lib.hid (LL2.out.later R2.out)
  go_wp2_with fail
  refine (brk_any LL3.out.disk 0 (by decide)).mono ?_
  rintro e w4 ⟨rfl, ht⟩
  rw [H1.out] at ht
  obtain ⟨F4, l4, -, -⟩ := LL3.out.turn ht
  have LL4 := Lib.hid l4
  clear ht l4
  go_wp2_with fail
  refine (alive_any w4).mono ?_
  rintro e w5 ⟨rfl, hb5⟩
  have LL5 := Lib.hid (LL4.out.later hb5)
  clear hb5
  go_wp2_with fail
  refine (sync_any LL5.out.disk).mono ?_
  rintro e w6 ⟨rfl, ht⟩
  rw [H2.out] at ht
  obtain ⟨F6, l6, -, -⟩ := LL5.out.turn ht
  have LL6 := Lib.hid l6
  rw [E1.out]
  clear ht l6
  go_wp2_with fail
  refine (down_any LL6.out.disk).mono ?_
  rintro e w7 ⟨rfl, rfl⟩
  rw [E2.out]
  go_wp2_with fail
  refine (new_any 9999 512 _ (by decide)).mono ?_
  rintro e w8 ⟨g8, F8, rfl, hd8, hb8, -⟩
  have HD8 := Lib.hid hd8
  have LL8 := Lib.hid (LL6.out.later hb8)
  clear hd8 hb8
  go_wp2_with fail
  refine (len_any HD8.out).mono ?_
  rintro e w9 ⟨rfl, rfl⟩
  rw [E3.out.1]
  go_wp2_with fail
  refine (new_any (-1) 0 _ (by decide)).mono ?_
  rintro e w10 ⟨g10, F10, rfl, hd10, hb10, -⟩
  have HD10 := Lib.hid hd10
  have LL10 := Lib.hid (LL8.out.later hb10)
  clear hd10 hb10
  go_wp2_with fail
  refine (len_any HD10.out).mono ?_
  rintro e w11 ⟨rfl, rfl⟩
  rw [E3.out.2]
  go_wp2_with fail
  go_ret
  exact ⟨rfl, LL10.out.below⟩
end Go.Proofs.Ytndcgofjhlndgaa.Disk
