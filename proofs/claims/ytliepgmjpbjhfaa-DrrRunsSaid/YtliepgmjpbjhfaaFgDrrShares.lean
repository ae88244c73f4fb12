/- Contract of shares. Conditions: none beyond each lemma's own hypotheses. -/
import Derived.Test.YtliepgmjpbjhfaaFgDrrFairPure
set_option linter.unusedVariables false
set_option linter.unusedSimpArgs false
namespace Go.Proofs.Ytliepgmjpbjhfaa.Drr
open Go.RowKit Go.Proofs.Ytliepgmjpbjhfaa.Fg Go.Shelf Go.Maps

theorem wrap64 {z : Int} (h0 : 0 ≤ z) (h1 : z < 18446744073709551616) : IntKind.u64.wrap z = z := by simp [IntKind.wrap, IntKind.bits, IntKind.signed]; omega
/-- Two moments, and what is asked of them. -/
structure Two (qs : List Int) (most : Int) (a b : List Int) : Prop where
  la : a.length = 8
  lb : b.length = 8
  n8 : qs.length ≤ 8
  m0 : 0 ≤ most ∧ most ≤ 16777216
  q0 : ∀ i, 0 ≤ qs.getD i 0 ∧ qs.getD i 0 ≤ 16777216
  ab : ∀ i, 0 ≤ a.getD i 0 ∧ a.getD i 0 ≤ b.getD i 0 ∧ b.getD i 0 ≤ 4294967296
  fair : ∀ i j : Nat, i < qs.length → j < qs.length → (b.getD i 0 - a.getD i 0) * qs.getD j 0 ≤ (b.getD j 0 - a.getD j 0) * qs.getD i 0 + qs.getD i 0 * qs.getD j 0 + most * qs.getD i 0 + most * qs.getD j 0
theorem mul_range {x y X Y : Int} (hx : 0 ≤ x ∧ x ≤ X) (hy : 0 ≤ y ∧ y ≤ Y) : 0 ≤ x * y ∧ x * y ≤ X * Y :=
  ⟨Int.mul_nonneg hx.1 hy.1, Int.mul_le_mul hx.2 hy.2 hy.1 (Int.le_trans hx.1 hx.2)⟩
set_option maxRecDepth 100000 in
set_option maxHeartbeats 4000000 in
theorem shares_any {w : World} {A : Option Addr} {c : Nat} {qs : List Int} {most : Int} {a b : List Int} (hs : Src w A qs.length c (uv qs)) (h : Two qs most a b) :
    Calls Try.prog 15 #[.slice A qs.length c, .int .u64 most, .agg (uv (a ++ b)).toArray] w fun e w' => e = .returned (.bool true) ∧ Below w.heap.size w w' := by
  have HS := Lib.hid hs
  have HT := Lib.hid h
  have hm := hs.most
  have hm2 := hs.cap
  have hn8 := h.n8
  unfold maxLen at hm
  have HB0 : Hid (Below w.heap.size w (w.alloc (.cells (uv (a ++ b)).toArray 36))) := Lib.hid ((Below.refl _ _).alloc (Nat.le_refl _) _)
  have HK0 : Hid ((w.alloc (.cells (uv (a ++ b)).toArray 36)).heap[w.heap.size]? = some (.cells (uv (a ++ b)).toArray 36 (0, 0))) := Lib.hid (heap_alloc_at w _)
  clear hs h
  go_enter Try.func15, Try.ntmps15
  go_wp2_with fail
  generalize w.alloc (.cells (uv (a ++ b)).toArray 36) = w1 at *
  obtain ⟨pb, hpb⟩ : ∃ pb, w.heap.size = pb := ⟨_, rfl⟩
  rw [hpb] at HK0 ⊢
  have HPB := Lib.hid hpb
  clear hpb
  go_loopg [15] qs.length (fun k v wr => ∃ i : Nat, i + k = qs.length ∧ v = .int .i64 i ∧ Below w.heap.size w wr ∧ wr.heap[pb]? = some (.cells (uv (a ++ b)).toArray 36 (0, 0)))
  case atStart => exact ⟨0, Nat.zero_add _, rfl, HB0.out, HK0.out⟩
  case round =>
    obtain ⟨i, hi, rfl, hb1, hk1⟩ := hrel
    have B1 := Lib.hid hb1
    have K1 := Lib.hid hk1
    clear hb1 hk1
    by_cases hlt : i < qs.length
    · obtain ⟨ad, rfl, hc⟩ := usrc_one HS.out B1.out hlt
      obtain ⟨p, hp⟩ : ∃ p, qs[i]'hlt = p := ⟨_, rfl⟩
      have HP : Hid (qs.getD i 0 = p) := Lib.hid (by rw [← hp, List.getD_eq_getElem?_getD, List.getElem?_eq_getElem hlt]; rfl)
      rw [hp] at hc
      have HI := Lib.hid hlt
      have hic : (i : Int) < qs.length := by omega
      have hi8 : (i : Int) < 8 := by omega
      obtain ⟨gk0, hgk0⟩ : ∃ x, x = gk := ⟨_, rfl⟩
      have HGK := Lib.hid hgk0
      have HJ := Lib.hid hi
      clear hp hgk0
      go_wp2_with fail
      generalize wr = w2 at *
      go_loopg [22] qs.length (fun k v wr => ∃ j : Nat, j + k = qs.length ∧ v = .int .i64 j ∧ Below w.heap.size w wr ∧ wr.heap[pb]? = some (.cells (uv (a ++ b)).toArray 36 (0, 0)))
      case atStart => exact ⟨0, Nat.zero_add _, rfl, B1.out, K1.out⟩
      case round =>
        obtain ⟨j, hj, rfl, hb2, hk2⟩ := hrel
        have B2 := Lib.hid hb2
        have K2 := Lib.hid hk2
        clear hb2 hk2
        by_cases hlt2 : j < qs.length
        · obtain ⟨ad2, he, hc2⟩ := usrc_one HS.out B2.out hlt2
          injection he with he
          subst he
          obtain ⟨q, hq⟩ : ∃ q, qs[j]'hlt2 = q := ⟨_, rfl⟩
          have HQ : Hid (qs.getD j 0 = q) := Lib.hid (by rw [← hq, List.getD_eq_getElem?_getD, List.getElem?_eq_getElem hlt2]; rfl)
          rw [hq] at hc2
          have hjc : (j : Int) < qs.length := by omega
          have hj8 : (j : Int) < 8 := by omega
          have cellA : ∀ t : Nat, t < 8 → wr.drew.cell? ⟨pb, t, none⟩ = some (.int .u64 (a.getD t 0)) := fun t ht => by
            have h1 : wr.cell? ⟨pb, t, none⟩ = _ := cell_of_block K2.out t
            have h2 : wr.drew.cell? ⟨pb, t, none⟩ = wr.cell? ⟨pb, t, none⟩ := rfl
            rw [h2, h1, List.getElem?_toArray]
            unfold uv
            rw [List.getElem?_map, List.getElem?_append_left (by rw [HT.out.la]; exact ht), List.getElem?_eq_getElem (by rw [HT.out.la]; exact ht), List.getD_eq_getElem?_getD, List.getElem?_eq_getElem (by rw [HT.out.la]; exact ht)]
            rfl
          have cellB : ∀ t : Nat, t < 8 → wr.drew.cell? ⟨pb, 8 + t, none⟩ = some (.int .u64 (b.getD t 0)) := fun t ht => by
            have h1 : wr.cell? ⟨pb, 8 + t, none⟩ = _ := cell_of_block K2.out (8 + t)
            have h2 : wr.drew.cell? ⟨pb, 8 + t, none⟩ = wr.cell? ⟨pb, 8 + t, none⟩ := rfl
            rw [h2, h1, List.getElem?_toArray]
            unfold uv
            rw [List.getElem?_map, List.getElem?_append_right (by rw [HT.out.la]; omega), HT.out.la, show 8 + t - 8 = t by omega, List.getElem?_eq_getElem (by rw [HT.out.lb]; exact ht), List.getD_eq_getElem?_getD, List.getElem?_eq_getElem (by rw [HT.out.lb]; exact ht)]
            rfl
          have ai := cellA i (by omega)
          have aj := cellA j (by omega)
          have bi := cellB i (by omega)
          have bj := cellB j (by omega)
          have F := HT.out.fair i j HI.out hlt2
          have ri := HT.out.ab i
          have rj := HT.out.ab j
          have qi := HT.out.q0 i
          have qj := HT.out.q0 j
          have m0 := HT.out.m0
          rw [HP.out, HQ.out] at F
          rw [HP.out] at qi
          rw [HQ.out] at qj
          generalize a.getD i 0 = xi at *
          generalize a.getD j 0 = xj at *
          generalize b.getD i 0 = yi at *
          generalize b.getD j 0 = yj at *
          have W1 : IntKind.u64.wrap (yi - xi) = yi - xi := wrap64 (by omega) (by omega)
          have W2 : IntKind.u64.wrap (yj - xj) = yj - xj := wrap64 (by omega) (by omega)
          have R1 := mul_range (x := yi - xi) (y := q) (X := 4294967296) (Y := 16777216) (by omega) qj
          have R2 := mul_range (x := yj - xj) (y := p) (X := 4294967296) (Y := 16777216) (by omega) qi
          have R3 := mul_range (x := p) (y := q) (X := 16777216) (Y := 16777216) qi qj
          have R4 := mul_range (x := most) (y := p) (X := 16777216) (Y := 16777216) m0 qi
          have R5 := mul_range (x := most) (y := q) (X := 16777216) (Y := 16777216) m0 qj
          have W3 : IntKind.u64.wrap ((yi - xi) * q) = (yi - xi) * q := wrap64 (by omega) (by omega)
          have W4 : IntKind.u64.wrap ((yj - xj) * p) = (yj - xj) * p := wrap64 (by omega) (by omega)
          have W5 : IntKind.u64.wrap (p * q) = p * q := wrap64 (by omega) (by omega)
          have W6 : IntKind.u64.wrap (most * p) = most * p := wrap64 (by omega) (by omega)
          have W7 : IntKind.u64.wrap (most * q) = most * q := wrap64 (by omega) (by omega)
          have W8 : IntKind.u64.wrap ((yj - xj) * p + p * q) = (yj - xj) * p + p * q := wrap64 (by omega) (by omega)
          have W9 : IntKind.u64.wrap ((yj - xj) * p + p * q + most * p) = (yj - xj) * p + p * q + most * p := wrap64 (by omega) (by omega)
          have W10 : IntKind.u64.wrap ((yj - xj) * p + p * q + most * p + most * q) = (yj - xj) * p + p * q + most * p + most * q := wrap64 (by omega) (by omega)
          have bF : decide ((yj - xj) * p + p * q + most * p + most * q < (yi - xi) * q) = false := decide_eq_false (by omega)
          have BD : Hid (Below w.heap.size w wr.drew) := Lib.hid (below_dr B2.out)
          have KD : Hid (wr.drew.heap[pb]? = some (.cells (uv (a ++ b)).toArray 36 (0, 0))) := Lib.hid K2.out
          clear cellA cellB F ri rj qi qj m0 R1 R2 R3 R4 R5 hq
          go_upto_region 7 with fail
          go_region_held3 (fun w' => w'.cell? ⟨pb, i, none⟩ = some (.int .u64 xi) ∧ w'.cell? ⟨pb, j, none⟩ = some (.int .u64 xj) ∧ w'.cell? ⟨pb, 8 + i, none⟩ = some (.int .u64 yi) ∧ w'.cell? ⟨pb, 8 + j, none⟩ = some (.int .u64 yj)) (exact ⟨ai, aj, bi, bj⟩) (fail)
          go_wp2_with fail
          go_roundg (gk - 1)
          case measure => omega
          case rel => exact ⟨j + 1, by omega, by go_num, BD.out, KD.out⟩
        · go_wp2_with fail
          go_roundg (gk0 - 1)
          case measure => have := HGK.out; have := HJ.out; have := HI.out; omega
          case rel => exact ⟨i + 1, by have := HGK.out; have := HJ.out; have := HI.out; omega, by go_num, B2.out, K2.out⟩
    · go_wp2_with fail
      go_ret
      exact ⟨rfl, B1.out⟩
end Go.Proofs.Ytliepgmjpbjhfaa.Drr
