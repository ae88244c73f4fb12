/- The laws AreaSlots and AreaPlaces of floodgate's area layer. There are no conditions: every number of sectors, every segment, every generation. -/
import Derived.Test.YtlnpiofjhpklhaaFgRef09b
namespace Go.Proofs.Ytlnpiofjhpklhaa.AreaLaws
open Go.RowKit Go.Proofs.Ytlnpiofjhpklhaa.Fg Go.Proofs.Ytlnpiofjhpklhaa.Area Go.ChangeShapes Go.WideShapes Go.ChangeAt

theorem alive_any (w : World) : Calls Try.prog 9 #[] w fun e w' => e = .returned (.bool true) ∧ Below w.heap.size w w' := by
  have T1 : ∀ w, Calls Try.prog 7 #[.int .i64 64] w fun e w' => e = .returned (.tuple #[.int .i64 2, .int .i64 0]) ∧ w = w' := fun w => segs_any 64 w
  have T2 : ∀ w, Calls Try.prog 8 #[.int .i64 64, .int .i64 0] w fun e w' => e = .returned (.tuple #[.int .i64 32, .int .i64 0]) ∧ Below w.heap.size w w' := fun w => seg_any 64 0 w
  have T3 : ∀ w, Calls Try.prog 8 #[.int .i64 64, .int .i64 1] w fun e w' => e = .returned (.tuple #[.int .i64 48, .int .i64 0]) ∧ Below w.heap.size w w' := fun w => seg_any 64 1 w
  have H1 := Lib.hid T1
  have H2 := Lib.hid T2
  have H3 := Lib.hid T3
  clear T1 T2 T3
  go_enter Try.func9, Try.ntmps9
  go_wp2_with fail
  refine (H1.out _).mono ?_
  rintro e w1 ⟨rfl, rfl⟩
  go_wp2_with fail
  refine (H2.out _).mono ?_
  rintro e w1 ⟨rfl, hb⟩
  go_wp2_with fail
  refine (H3.out _).mono ?_
  rintro e w2 ⟨rfl, hb2⟩
  go_wp2_with fail
  go_ret
  exact ⟨rfl, hb.trans (hb2.mono hb.size)⟩

theorem seg_in {s a : Int} (h1 : 64 ≤ s) (h2 : s ≤ 512) (ha : 0 ≤ a) (hb : a < (s - 32) / 16) (w : World) : Calls Try.prog 8 #[.int .i64 s, .int .i64 a] w fun e w' => e = .returned (.tuple #[.int .i64 (32 + a * 16), .int .i64 0]) ∧ Below w.heap.size w w' := by
  have hk : okB s a = true := by unfold okB segsN; rw [if_pos ⟨h1, h2⟩, decide_eq_true ha, decide_eq_true hb]; rfl
  have := seg_any s a w
  unfold segV segE at this
  rw [if_pos hk, if_pos hk] at this
  exact this
theorem segs_in {s : Int} (h1 : 64 ≤ s) (h2 : s ≤ 512) (w : World) : Calls Try.prog 7 #[.int .i64 s] w fun e w' => e = .returned (.tuple #[.int .i64 ((s - 32) / 16), .int .i64 0]) ∧ w = w' := by
  have := segs_any s w
  unfold segsN segsE at this
  rw [if_pos ⟨h1, h2⟩, if_pos ⟨h1, h2⟩] at this
  exact this
theorem parity (g0 g1 : Int) : (!(g0 % 2 * 16 == g1 % 2 * 16) == (g0 % 2 == g1 % 2)) = false := by
  rw [Bool.not_eq_false', beq_iff_eq, Bool.eq_iff_iff, beq_iff_eq, beq_iff_eq]; omega
set_option maxHeartbeats 1000000 in
theorem slots_any (g0 g1 s0 s1 : Int) (w : World) (a : 0 ≤ g0) (b : 0 ≤ g1) :
    Calls Try.prog 4 #[.agg #[.int .u64 g0, .int .u64 g1], .agg #[.int .i64 s0, .int .i64 s1]] w fun e w' => e = .returned (.bool true) ∧ Below w.heap.size w w' := by
  have hpar := parity g0 g1
  go_enter Try.func4, Try.ntmps4
  go_wp2_with fail
  refine (alive_any _).mono ?_
  rintro e w1 ⟨rfl, hb⟩
  have hbelow : Below w.heap.size w w1 := (((Below.refl w.heap.size w).alloc (Nat.le_refl _) _).alloc (by simp) _).trans (hb.mono (by simp; omega))
  have hc0 : w1.cell? ⟨w.heap.size, 0, none⟩ = some (.int .u64 g0) := by rw [(bcell hb).1 _ _ (by simp; omega)]; go_simp
  have hc1 : w1.cell? ⟨w.heap.size, 1, none⟩ = some (.int .u64 g1) := by rw [(bcell hb).1 _ _ (by simp; omega)]; go_simp
  have hd0 : w1.cell? ⟨w.heap.size + 1, 0, none⟩ = some (.int .i64 s0) := by rw [(bcell hb).1 _ _ (by simp)]; go_simp
  have hd1 : w1.cell? ⟨w.heap.size + 1, 1, none⟩ = some (.int .i64 s1) := by rw [(bcell hb).1 _ _ (by simp)]; go_simp
  have hz := hb.size
  simp at hz
  clear hb
  go_wp2_with fail
  go_quiet ((go_at_call 10; exact Calls.quiet_of_same (slot_any _ _ (by assumption))))
  by_cases c1 : s1 < s0
  · go_wp2_with fail
    go_ret
    exact ⟨rfl, below_drewN hbelow _⟩
  · by_cases c2 : s0 < 64
    · go_wp2_with fail
      go_ret
      exact ⟨rfl, below_drewN hbelow _⟩
    · by_cases c3 : 512 < s1
      · go_wp2_with fail
        go_ret
        exact ⟨rfl, below_drewN hbelow _⟩
      · have n0 : 0 ≤ (s0 - 32) / 16 := by omega
        have n1 : (s0 - 32) / 16 ≤ (s1 - 32) / 16 := by omega
        have n2 : (s1 - 32) / 16 ≤ 30 := by omega
        go_wp2_with fail
        refine (segs_in (by omega) (by omega) _).mono ?_
        rintro e w2 ⟨rfl, rfl⟩
        go_wp2_with fail
        refine (segs_in (by omega) (by omega) _).mono ?_
        rintro e w2 ⟨rfl, rfl⟩
        go_wp2_with fail
        generalize hwq : w1.drewN nq = wq
        have hbq : Below w.heap.size w wq := by rw [← hwq]; exact below_drewN hbelow _
        have he0 : wq.cell? ⟨w.heap.size + 1, 0, none⟩ = some (.int .i64 s0) := by rw [← hwq]; exact hd0
        have he1 : wq.cell? ⟨w.heap.size + 1, 1, none⟩ = some (.int .i64 s1) := by rw [← hwq]; exact hd1
        have hzq : w.heap.size + 2 ≤ wq.heap.size := by rw [← hwq]; exact hz
        clear hwq hbelow hc0 hc1 hd0 hd1 hz
        go_loopw [9] (fun k wr => ∃ j : Nat, (j : Int) ≤ (s0 - 32) / 16 ∧ k = .int .i64 j ∧ Below w.heap.size w wr ∧ wr.cell? ⟨w.heap.size + 1, 0, none⟩ = some (.int .i64 s0) ∧ wr.cell? ⟨w.heap.size + 1, 1, none⟩ = some (.int .i64 s1) ∧ w.heap.size + 2 ≤ wr.heap.size)
          (fun k _ => 30 - (intOf k).toNat)
        case atStart => exact ⟨0, by omega, rfl, hbq, he0, he1, hzq⟩
        case round =>
          obtain ⟨j, hj, rfl, hbr, hr0, hr1, hzr⟩ := hrel
          by_cases hlt : (j : Int) < (s0 - 32) / 16
          · go_wp2_with fail
            refine (seg_in (by omega) (by omega) (by omega) (by omega) _).mono ?_
            rintro e w3 ⟨rfl, hb3⟩
            have hx0 : w3.cell? ⟨w.heap.size + 1, 0, none⟩ = some (.int .i64 s0) := ((bcell hb3).1 _ _ (by omega)).trans hr0
            have hx1 : w3.cell? ⟨w.heap.size + 1, 1, none⟩ = some (.int .i64 s1) := ((bcell hb3).1 _ _ (by omega)).trans hr1
            have hb3' := hbr.trans (hb3.mono (by omega))
            have hz3 := hb3.size
            clear hb3
            go_wp2_with fail
            refine (seg_in (by omega) (by omega) (by omega) (by omega) _).mono ?_
            rintro e w4 ⟨rfl, hb4⟩
            have hy0 : w4.cell? ⟨w.heap.size + 1, 0, none⟩ = some (.int .i64 s0) := ((bcell hb4).1 _ _ (by omega)).trans hx0
            have hy1 : w4.cell? ⟨w.heap.size + 1, 1, none⟩ = some (.int .i64 s1) := ((bcell hb4).1 _ _ (by omega)).trans hx1
            have hb4' := hb3'.trans (hb4.mono (by omega))
            have hz4 := hb4.size
            clear hb4
            go_wp2_with fail
            go_roundw
            case rel => exact ⟨j + 1, by omega, by go_num, hb4', hy0, hy1, by omega⟩
            case measure => simp [intOf]; omega
          · go_wp2_with fail
            go_ret
            exact ⟨rfl, hbr⟩

theorem u64_pos {n : Int} (h : (Lit.int .u64 n).wf = true) : 0 ≤ n := by
  have hmin : IntKind.u64.min = 0 := rfl
  simp only [Lit.wf, Bool.and_eq_true, decide_eq_true_eq, hmin] at h
  exact h.1
theorem list_two {α : Type} {l : List α} (h : l.length = 2) : ∃ a b, l = [a, b] := by
  match l, h with
  | [a, b], _ => exact ⟨a, b, rfl⟩

set_option maxRecDepth 100000 in
theorem slots_lifted (os : Os) (started : os.Started) (H : Type) (enc : TypeId × Value → H) :
    ReturnsInHanded {} Try.checked os 4 .any (Rows.areaSlotsSpec.pre6 enc Try.prog Try.f4 Rows.areaSlotsRow.domain false) (Rows.areaSlotsSpec.post enc Try.prog Try.f4 false true false false) := by
  refine law_lifted (C := Try.checked) laidOut own started (by kernel_rfl) Try.func4 rfl Try.underlying4 (by kernel_rfl) rfl
    (ChangeSpec.witness6 (enc := enc) (C := Try.checked) false ⟨#[], #[.agg #[.int .u64 0, .int .u64 0], .agg #[.int .i64 0, .int .i64 0]], []⟩ 8 (by kernel_rfl) (by kernel_rfl) (by kernel_rfl) (by kernel_rfl)) ?_
  intro W base args ds p hval0 hA0 _ _
  have hval : ∀ (j : Nat) t v, Try.f4.params[j]? = some t → args[j]? = some v → Value.okWide Try.prog W .any base t v := hval0
  have hA : DataW.TrodAll enc Try.prog W 0 (fun _ => true) true Try.f4.params.toList args ds p := hA0
  rw [Try.params4] at hA hval
  obtain ⟨v0, vs0, d0, ds0, p0, q0, rfl, rfl, rfl, h0, r0⟩ := trodAll_cons hA
  obtain ⟨v1, vs1, d1, ds1, p1, q1, rfl, rfl, rfl, h1, r1⟩ := trodAll_cons r0
  obtain ⟨rfl, rfl, rfl⟩ := trodAll_nil r1
  obtain ⟨xs, hx, rfl, wx⟩ := open_array Try.underlying28 Try.underlying27 (by kernel_rfl) (by kernel_rfl) (hval 0 _ v0 rfl rfl) h0
  obtain ⟨ys, hy, rfl, wy⟩ := open_array Try.underlying29 Try.underlying3 (by kernel_rfl) (by kernel_rfl) (hval 1 _ v1 rfl rfl) h1
  obtain ⟨g0, g1, rfl⟩ := list_two hx
  obtain ⟨s0, s1, rfl⟩ := list_two hy
  exact ⟨rfl, slots_any g0 g1 s0 s1 W (u64_pos (wx g0 (by simp))) (u64_pos (wx g1 (by simp)))⟩

theorem segE_bd (s k : Int) : 0 ≤ segE s k ∧ segE s k ≤ 91 := by unfold segE; split <;> omega
theorem segsE_bd (s : Int) : 0 ≤ segsE s ∧ segsE s ≤ 91 := by unfold segsE; split <;> omega
theorem thereE_bd (s j k : Int) : 0 ≤ thereE s [j, k] ∧ thereE s [j, k] ≤ 91 := by rw [thereE_two]; split <;> omega
set_option maxHeartbeats 1000000 in
theorem places_any (s k0 k1 g : Int) (w : World) (a : 0 ≤ g) :
    Calls Try.prog 5 #[.int .i64 s, .agg #[.int .i64 k0, .int .i64 k1], .int .u64 g] w fun e w' => e = .returned (.bool true) ∧ Below w.heap.size w w' := by
  have b1 := segsE_bd s
  have b2 := segE_bd s k0
  have b3 := thereE_bd s k0 k1
  go_enter Try.func5, Try.ntmps5
  go_wp2_with fail
  refine (alive_any _).mono ?_
  rintro e w1 ⟨rfl, hb⟩
  have hbelow : Below w.heap.size w w1 := ((Below.refl w.heap.size w).alloc (Nat.le_refl _) _).trans (hb.mono (by simp))
  have hc0 : w1.cell? ⟨w.heap.size, 0, none⟩ = some (.int .i64 k0) := by rw [(bcell hb).1 _ _ (by simp)]; go_simp
  have hc1 : w1.cell? ⟨w.heap.size, 1, none⟩ = some (.int .i64 k1) := by rw [(bcell hb).1 _ _ (by simp)]; go_simp
  have hz := hb.size
  simp at hz
  clear hb
  go_wp2_with fail
  refine (segs_any s _).mono ?_
  rintro e w2 ⟨rfl, rfl⟩
  go_wp2_with fail
  refine (Ref09.segs_any s _).mono ?_
  rintro e w2 ⟨rfl, rfl⟩
  go_wp2_with fail
  refine (seg_any s k0 _).mono ?_
  rintro e w2 ⟨rfl, hb⟩
  have hbelow2 : Below w.heap.size w w2 := hbelow.trans (hb.mono (by omega))
  have hd0 : w2.cell? ⟨w.heap.size, 0, none⟩ = some (.int .i64 k0) := ((bcell hb).1 _ _ (by omega)).trans hc0
  have hd1 : w2.cell? ⟨w.heap.size, 1, none⟩ = some (.int .i64 k1) := ((bcell hb).1 _ _ (by omega)).trans hc1
  have hz2 := hb.size
  clear hb hc0 hc1 hbelow
  go_wp2_with fail
  refine (Ref09.seg_any s k0 _).mono ?_
  rintro e w3 ⟨rfl, rfl⟩
  go_wp2_with fail
  refine (next_any s k0 _).mono ?_
  rintro e w3 ⟨rfl, hb⟩
  have hbelow3 : Below w.heap.size w w3 := hbelow2.trans (hb.mono (by omega))
  have he0 : w3.cell? ⟨w.heap.size, 0, none⟩ = some (.int .i64 k0) := ((bcell hb).1 _ _ (by omega)).trans hd0
  have he1 : w3.cell? ⟨w.heap.size, 1, none⟩ = some (.int .i64 k1) := ((bcell hb).1 _ _ (by omega)).trans hd1
  have hz3 := hb.size
  clear hb hd0 hd1 hbelow2
  go_wp2_with fail
  refine (Ref09.next_any s k0 _).mono ?_
  rintro e w4 ⟨rfl, rfl⟩
  go_wp2_with fail
  refine (used_any s k0 k1 _).mono ?_
  rintro e w4 ⟨rfl, hb⟩
  have hbelow4 : Below w.heap.size w w4 := hbelow3.trans (hb.mono (by omega))
  have hf0 : w4.cell? ⟨w.heap.size, 0, none⟩ = some (.int .i64 k0) := ((bcell hb).1 _ _ (by omega)).trans he0
  have hf1 : w4.cell? ⟨w.heap.size, 1, none⟩ = some (.int .i64 k1) := ((bcell hb).1 _ _ (by omega)).trans he1
  have hz4 := hb.size
  clear hb he0 he1 hbelow3
  go_wp2_with fail
  refine (Ref09.used_any s k0 k1 _).mono ?_
  rintro e w5 ⟨rfl, rfl⟩
  go_wp2_with fail
  refine (slot_any g _ a).mono ?_
  rintro e w5 ⟨rfl, rfl⟩
  go_wp2_with fail
  refine (Ref09.slot_any g _ a).mono ?_
  rintro e w5 ⟨rfl, rfl⟩
  go_wp2_with fail
  go_ret
  exact ⟨rfl, hbelow4⟩

set_option maxRecDepth 100000 in
theorem places_lifted (os : Os) (started : os.Started) (H : Type) (enc : TypeId × Value → H) :
    ReturnsInHanded {} Try.checked os 5 .any (Rows.areaPlacesSpec.pre6 enc Try.prog Try.f5 Rows.areaPlacesRow.domain false) (Rows.areaPlacesSpec.post enc Try.prog Try.f5 false true false false) := by
  refine law_lifted (C := Try.checked) laidOut own started (by kernel_rfl) Try.func5 rfl Try.underlying4 (by kernel_rfl) rfl
    (ChangeSpec.witness6 (enc := enc) (C := Try.checked) false ⟨#[], #[.int .i64 0, .agg #[.int .i64 0, .int .i64 0], .int .u64 0], []⟩ 8 (by kernel_rfl) (by kernel_rfl) (by kernel_rfl) (by kernel_rfl)) ?_
  intro W base args ds p hval0 hA0 _ _
  have hval : ∀ (j : Nat) t v, Try.f5.params[j]? = some t → args[j]? = some v → Value.okWide Try.prog W .any base t v := hval0
  have hA : DataW.TrodAll enc Try.prog W 0 (fun _ => true) true Try.f5.params.toList args ds p := hA0
  rw [Try.params5] at hA hval
  obtain ⟨v0, vs0, d0, ds0, p0, q0, rfl, rfl, rfl, h0, r0⟩ := trodAll_cons hA
  obtain ⟨v1, vs1, d1, ds1, p1, q1, rfl, rfl, rfl, h1, r1⟩ := trodAll_cons r0
  obtain ⟨v2, vs2, d2, ds2, p2, q2, rfl, rfl, rfl, h2, r2⟩ := trodAll_cons r1
  obtain ⟨rfl, rfl, rfl⟩ := trodAll_nil r2
  obtain ⟨s, rfl, rfl, rfl, ws⟩ := open_int Try.underlying3 (hval 0 _ v0 rfl rfl) h0
  obtain ⟨xs, hx, rfl, wx⟩ := open_array Try.underlying29 Try.underlying3 (by kernel_rfl) (by kernel_rfl) (hval 1 _ v1 rfl rfl) h1
  obtain ⟨g, rfl, rfl, rfl, wg⟩ := open_int Try.underlying27 (hval 2 _ v2 rfl rfl) h2
  obtain ⟨k0, k1, rfl⟩ := list_two hx
  exact ⟨rfl, places_any s k0 k1 g W (u64_pos wg)⟩

end Go.Proofs.Ytlnpiofjhpklhaa.AreaLaws
namespace Go.Proofs.Ytlnpiofjhpklhaa
/-- The row, under a short name, for the claim. -/
theorem areaPlaces_holds : Rows.AreaPlacesSaid :=
  OpenClaim.holds_of_wide 5 Try.f5 rfl rfl rfl rfl rfl rfl rfl ⟨rfl, rfl, rfl, rfl, rfl⟩ rfl rfl rfl rfl rfl (by kernel_rfl) Try.func5 (by kernel_rfl)
    (of_decide_eq_true (by kernel_rfl)) (by unfold Func.isWrapper; first | (rw [if_pos (by decide +kernel)]; kernel_rfl) | (rw [if_neg (by decide +kernel)]; exact ⟨rfl, rfl⟩))
    (fun os started H enc _ => AreaLaws.places_lifted os started H enc)
#print axioms areaPlaces_holds
/-- The row, under a short name, for the claim. -/
theorem areaSlots_holds : Rows.AreaSlotsSaid :=
  OpenClaim.holds_of_wide 4 Try.f4 rfl rfl rfl rfl rfl rfl rfl ⟨rfl, rfl, rfl, rfl, rfl⟩ rfl rfl rfl rfl rfl (by kernel_rfl) Try.func4 (by kernel_rfl)
    (of_decide_eq_true (by kernel_rfl)) (by unfold Func.isWrapper; first | (rw [if_pos (by decide +kernel)]; kernel_rfl) | (rw [if_neg (by decide +kernel)]; exact ⟨rfl, rfl⟩))
    (fun os started H enc _ => AreaLaws.slots_lifted os started H enc)
#print axioms areaSlots_holds
end Go.Proofs.Ytlnpiofjhpklhaa
