/- Law AreaApart of floodgate's area layer: slots and segments of a disk lie apart from one another, on the disk, and the segments are gone round in. There are no conditions: every number of sectors and every generation. -/
import Derived.Test.YtlnpiofjhpklhaaPAreaApartx2
namespace Go.Proofs.Ytlnpiofjhpklhaa.Pure
open Go.RowKit Go.Proofs.Ytlnpiofjhpklhaa.PAreaApart Go.Proofs.YtlnpiofjhpklhaaW.PrintWords Go.Proofs.YtlnpiofjhpklhaaW.PrintLast

theorem w64 {x : Int} (h : -9223372036854775808 ≤ x) (h' : x ≤ 9223372036854775807) : wrap64 x = x := by unfold wrap64; omega
theorem Segs_in {s : Int} (h1 : 64 ≤ s) (h2 : s ≤ 512) : area_Segs.f s = some ((s - 32) / 16, 0) := by
  unfold area_Segs.f
  rw [if_neg (by omega), if_neg (by omega), w64 (x := s - 32) (by omega) (by omega), Int.tdiv_eq_ediv_of_nonneg (by omega), w64 (by omega) (by omega)]
theorem there_one {s a : Int} (h1 : 64 ≤ s) (h2 : s ≤ 512) (ha : 0 ≤ a) (hb : a < (s - 32) / 16) (k : Nat) : area_there.f (k + 2) s [a] = some ((s - 32) / 16, 0) := by
  unfold area_there.f
  rw [Segs_in h1 h2]
  simp only [Option.bind_some, List.length_cons, List.length_nil, area_there.l0, rd]
  have e1 : wrap64 (0 + 1) = 1 := w64 (by decide) (by decide)
  rw [e1, if_pos (by decide), if_pos (by decide), if_pos (by decide), if_neg (by simpa using ha), if_neg (by simp; omega), if_neg (by decide)]
theorem there_two {s a b : Int} (h1 : 64 ≤ s) (h2 : s ≤ 512) (ha : 0 ≤ a) (hb : a < (s - 32) / 16) (hc : 0 ≤ b) (hd : b < (s - 32) / 16) (k : Nat) : area_there.f (k + 3) s [a, b] = some ((s - 32) / 16, 0) := by
  unfold area_there.f
  rw [Segs_in h1 h2]
  simp only [Option.bind_some, List.length_cons, List.length_nil, area_there.l0, rd]
  have e1 : wrap64 (0 + 1) = 1 := w64 (by decide) (by decide)
  have e2 : wrap64 (1 + 1) = 2 := w64 (by decide) (by decide)
  rw [e1, e2, if_pos (by decide), if_pos (by decide), if_pos (by decide), if_neg (by simpa using ha), if_neg (by simp; omega), if_pos (by decide), if_pos (by decide), if_pos (by decide), if_neg (by simpa using hc), if_neg (by simp; omega), if_neg (by decide)]
theorem Seg_in {s a : Int} (h1 : 64 ≤ s) (h2 : s ≤ 512) (ha : 0 ≤ a) (hb : a < (s - 32) / 16) (k : Nat) : area_Seg.f (k + 2) s a = some (32 + a * 16, 0) := by
  unfold area_Seg.f
  rw [there_one h1 h2 ha hb]
  simp only [Option.bind_some, if_true]
  rw [w64 (x := a * 16) (by omega) (by omega), w64 (by omega) (by omega)]
theorem Next_in {s a : Int} (h1 : 64 ≤ s) (h2 : s ≤ 512) (ha : 0 ≤ a) (hb : a < (s - 32) / 16) (k : Nat) : area_Next.f (k + 2) s a = some ((a + 1) % ((s - 32) / 16), 0) := by
  unfold area_Next.f
  rw [there_one h1 h2 ha hb]
  simp only [Option.bind_some, if_true]
  rw [if_neg (by omega), w64 (x := a + 1) (by omega) (by omega), Int.tmod_eq_emod_of_nonneg (by omega)]
theorem Used_in {s b : Int} (h1 : 64 ≤ s) (h2 : s ≤ 512) (hc : 0 ≤ b) (hd : b < (s - 32) / 16) (k : Nat) : area_Used.f (k + 3) s 0 b = some (b + 1, 0) := by
  unfold area_Used.f
  rw [there_two h1 h2 (by omega) (by omega) hc hd]
  simp only [Option.bind_some, if_true]
  have e : (b - 0 + (s - 32) / 16) % ((s - 32) / 16) = b := by
    rw [Int.sub_zero, Int.add_emod_right, Int.emod_eq_of_lt hc hd]
  rw [if_neg (by omega), w64 (x := b - 0) (by omega) (by omega), w64 (x := b - 0 + _) (by omega) (by omega), Int.tmod_eq_emod_of_nonneg (by omega), e, w64 (by omega) (by omega)]
theorem alive (k : Nat) : floodgatelaw09_areaAlive.f (k + 2) = some true := by
  unfold floodgatelaw09_areaAlive.f
  rw [Segs_in (by decide) (by decide), Seg_in (by decide) (by decide) (by decide) (by decide), Seg_in (by decide) (by decide) (by decide) (by decide)]
  rfl

/-- The starts: the two slots, then the first n segments. -/
def starts (b : Int) (n : Nat) : List Int := [b, 16 - b] ++ (List.range n).map fun (j : Nat) => 32 + (j : Int) * 16
theorem starts_length (b : Int) (n : Nat) : (starts b n).length = n + 2 := by simp [starts]
theorem starts_succ (b : Int) (n : Nat) : starts b n ++ [32 + (n : Int) * 16] = starts b (n + 1) := by
  simp [starts, List.range_succ]
/-- Start i as a number. -/
def st (b : Int) (i : Nat) : Int := if i = 0 then b else if i = 1 then 16 - b else i * 16
theorem rd_starts (b : Int) (n i : Nat) (h : i < n + 2) : rd (starts b n) (i : Int) = st b i := by
  unfold rd starts st
  match i with
  | 0 => simp
  | 1 => simp
  | i + 2 =>
    simp only [Int.toNat_natCast, List.getD_eq_getElem?_getD]
    rw [List.getElem?_append_right (by simp)]
    simp [List.getElem?_range (show i < n by omega)]
    omega

theorem l3_ends (s : Int) (h1 : 64 ≤ s) (h2 : s ≤ 512) (l : List Int) (hl : (l.length : Int) = (s - 32) / 16 + 2) (d : Nat) : ∀ (x : Int), 0 ≤ x → x < (s - 32) / 16 → (s - 32) / 16 - x = d + 1 →
    Ev (fun k => floodgatelaw09_AreaApart.l3 k s ((s - 32) / 16) l x (x + 1)) true := by
  induction d with
  | zero =>
    intro x h0 hx hd
    refine Ev.step (f := fun k => _) (fun k => rfl) ?_
    refine ⟨5, fun k hk => ?_⟩
    obtain ⟨k, rfl⟩ : ∃ m, k = m + 4 := ⟨k - 4, by omega⟩
    dsimp only
    rw [floodgatelaw09_AreaApart.l3]
    have e : (x + 1) % ((s - 32) / 16) = 0 := by
      have : x + 1 = (s - 32) / 16 := by omega
      rw [this, Int.emod_self]
    rw [if_pos (by omega), Next_in h1 h2 h0 hx, Used_in h1 h2 h0 hx, e]
    simp only [Option.bind_some, if_true]
    rw [w64 (x := x + 1 + 1) (by omega) (by omega)]
    simp only [floodgatelaw09_AreaApart.l3]
    rw [if_neg (by omega)]
    have e2 : (if (0 : Int) = 0 then (if (s - 32) / 16 ≥ 2 then some (decide (wrap64 (s - wrap64 ((l.length : Int) * 16)) < 16)) else some false) else some false) = some (decide (wrap64 (s - wrap64 ((l.length : Int) * 16)) < 16)) := by
      rw [if_pos rfl, if_pos (by omega)]
    refine e2.trans ?_
    rw [w64 (x := (l.length : Int) * 16) (by omega) (by omega), w64 (by omega) (by omega)]
    simp only [Option.some.injEq, decide_eq_true_eq]
    omega
  | succ d ih =>
    intro x h0 hx hd
    refine Ev.step (f := fun k => _) (fun k => rfl) ?_
    obtain ⟨K, hK⟩ := ih (x + 1) (by omega) (by omega) (by omega)
    refine ⟨K + 5, fun k hk => ?_⟩
    obtain ⟨k, rfl⟩ : ∃ m, k = m + 4 := ⟨k - 4, by omega⟩
    dsimp only
    rw [floodgatelaw09_AreaApart.l3]
    have e : (x + 1) % ((s - 32) / 16) = x + 1 := Int.emod_eq_of_lt (by omega) (by omega)
    rw [if_pos (by omega), Next_in h1 h2 h0 hx, Used_in h1 h2 h0 hx, e]
    simp only [Option.bind_some, if_true]
    rw [w64 (x := x + 1 + 1) (by omega) (by omega)]
    exact hK (k + 4) (by omega)

/-- What is still free: behind start i. -/
def Free (b : Int) (n i : Nat) (x7 : List Int) : Prop := ∀ j : Nat, i ≤ j → j < n + 2 → ∀ p : Int, st b j ≤ p → p < st b j + 16 → rd x7 p = 0
theorem rd_set (l : List Int) (i p v : Int) (hi : 0 ≤ i) (hp : 0 ≤ p) (h : i < (l.length : Int)) : rd (l.set i.toNat v) p = if p = i then v else rd l p := by
  unfold rd
  rw [List.getD_eq_getElem?_getD, List.getD_eq_getElem?_getD, List.getElem?_set]
  by_cases e : p = i
  · subst e
    rw [if_pos rfl, if_pos rfl, if_pos (by omega)]; rfl
  · rw [if_neg (by omega), if_neg e]
theorem st_bound {b : Int} (hb : b = 0 ∨ b = 16) {n i : Nat} {s : Int} (h : i < n + 2) (hn : (n : Int) = (s - 32) / 16) (h1 : 64 ≤ s) : 0 ≤ st b i ∧ st b i ≤ s - 16 ∧ st b i % 16 = 0 := by
  unfold st; split
  · rcases hb with rfl | rfl <;> omega
  · split
    · rcases hb with rfl | rfl <;> omega
    · omega
theorem st_ne {b : Int} (hb : b = 0 ∨ b = 16) {i j : Nat} (h : i ≠ j) : st b i ≠ st b j := by
  unfold st; rcases hb with rfl | rfl <;> (repeat' split) <;> omega
theorem l2_runs (b : Int) (hb : b = 0 ∨ b = 16) (s : Int) (h1 : 64 ≤ s) (h2 : s ≤ 512) (n : Nat) (hn : (n : Int) = (s - 32) / 16) (i : Nat) (hi : i < n + 2) (l : List Int) (m q : Int)
    (next : ∀ x7 : List Int, (x7.length : Int) = s → Free b n (i + 1) x7 → Ev (fun k => floodgatelaw09_AreaApart.l1 k s n x7 l l m (wrap64 (q + 1))) true) (d : Nat) :
    ∀ (x14 : Int) (x7 : List Int), (x7.length : Int) = s → st b i ≤ x14 → x14 ≤ st b i + 16 → st b i + 16 - x14 = d → Free b n (i + 1) x7 → (∀ p : Int, x14 ≤ p → p < st b i + 16 → rd x7 p = 0) →
    Ev (fun k => floodgatelaw09_AreaApart.l2 k s n x7 l (st b i) x14 l m q) true := by
  obtain ⟨g0, g1, g2⟩ := st_bound hb hi hn h1
  induction d with
  | zero =>
    intro x14 x7 hl h3 h4 hd hf _
    refine Ev.step (f := fun k => _) (fun k => rfl) ?_
    obtain ⟨K, hK⟩ := next x7 hl hf
    refine ⟨K, fun k hk => ?_⟩
    dsimp only
    rw [floodgatelaw09_AreaApart.l2]
    rw [w64 (x := st b i + 16) (by omega) (by omega), if_neg (by omega)]
    exact hK k hk
  | succ d ih =>
    intro x14 x7 hl h3 h4 hd hf hz
    have e0 := hz x14 (by omega) (by omega)
    have hlen : ((x7.set x14.toNat 1).length : Int) = s := by rw [List.length_set]; exact hl
    obtain ⟨K, hK⟩ := ih (x14 + 1) (x7.set x14.toNat 1) hlen (by omega) (by omega) (by omega)
      (fun j hj hj2 p hp hp2 => by
        obtain ⟨f0, f1, f2⟩ := st_bound hb hj2 hn h1
        have hne := st_ne hb (show i ≠ j by omega)
        rw [rd_set _ _ _ _ (by omega) (by omega) (by omega), if_neg (by omega)]
        exact hf j hj hj2 p hp hp2)
      (fun p hp hp2 => by
        rw [rd_set _ _ _ _ (by omega) (by omega) (by omega), if_neg (by omega)]
        exact hz p (by omega) hp2)
    refine Ev.step (f := fun k => _) (fun k => rfl) ?_
    refine ⟨K, fun k hk => ?_⟩
    dsimp only
    rw [floodgatelaw09_AreaApart.l2]
    rw [w64 (x := st b i + 16) (by omega) (by omega), if_pos (by omega), if_pos (by omega), if_pos (by omega), e0]
    simp only [Option.bind_some]
    have e1 : wrap64 (0 + 1) = 1 := w64 (by decide) (by decide)
    rw [e1, rd_set _ _ _ _ (by omega) (by omega) (by omega), if_pos rfl, if_neg (by decide), w64 (x := x14 + 1) (by omega) (by omega)]
    exact hK k hk
theorem l1_runs (b : Int) (hb : b = 0 ∨ b = 16) (s : Int) (h1 : 64 ≤ s) (h2 : s ≤ 512) (n : Nat) (hn : (n : Int) = (s - 32) / 16) (d : Nat) :
    ∀ (i : Nat) (x7 : List Int), (x7.length : Int) = s → i ≤ n + 2 → n + 2 - i = d → Free b n i x7 →
    Ev (fun k => floodgatelaw09_AreaApart.l1 k s n x7 (starts b n) (starts b n) ((n : Int) + 2) i) true := by
  have hl := starts_length b n
  induction d with
  | zero =>
    intro i x7 hx hi hd hf
    refine Ev.step (f := fun k => _) (fun k => rfl) ?_
    obtain ⟨K, hK⟩ := l3_ends s h1 h2 (starts b n) (by omega) (n - 1) 0 (by omega) (by omega) (by omega)
    refine ⟨K, fun k hk => ?_⟩
    dsimp only
    rw [floodgatelaw09_AreaApart.l1]
    rw [if_neg (by omega), hn]
    exact hK k hk
  | succ d ih =>
    intro i x7 hx hi hd hf
    obtain ⟨g0, g1, g2⟩ := st_bound hb (show i < n + 2 by omega) hn h1
    have A := l2_runs b hb s h1 h2 n hn i (by omega) (starts b n) ((n : Int) + 2) i
      (fun y hy hfy => by
        have := ih (i + 1) y hy (by omega) (by omega) hfy
        rw [w64 (x := (i : Int) + 1) (by omega) (by omega)]
        exact this) 16 (st b i) x7 hx (by omega) (by omega) (by omega) (fun j hj => hf j (by omega)) (fun p hp hp2 => hf i (by omega) (by omega) p hp hp2)
    refine Ev.step (f := fun k => _) (fun k => rfl) ?_
    obtain ⟨K, hK⟩ := A
    refine ⟨K + 1, fun k hk => ?_⟩
    obtain ⟨k, rfl⟩ : ∃ m, k = m + 1 := ⟨k - 1, by omega⟩
    dsimp only
    rw [floodgatelaw09_AreaApart.l1]
    rw [if_pos (by omega), if_pos (by omega), if_pos (by omega), rd_starts b n i (by omega), if_neg (by omega)]
    simp only [floodgatelaw09_AreaApart.j2]
    rw [w64 (x := s - 16) (by omega) (by omega), decide_eq_false (by omega), if_neg (by decide)]
    exact hK k (by omega)
theorem l0_runs (b : Int) (hb : b = 0 ∨ b = 16) (s : Int) (h1 : 64 ≤ s) (h2 : s ≤ 512) (n : Nat) (hn : (n : Int) = (s - 32) / 16) (d : Nat) :
    ∀ (i : Nat), i ≤ n → n - i = d → Ev (fun k => floodgatelaw09_AreaApart.l0 k s n (List.replicate s.toNat 0) (starts b i) i) true := by
  induction d with
  | zero =>
    intro i hi hd
    obtain rfl : i = n := by omega
    have A := l1_runs b hb s h1 h2 i hn (i + 2) 0 (List.replicate s.toNat 0) (by rw [List.length_replicate]; omega) (by omega) (by omega) (fun j _ _ p _ _ => by
      unfold rd; rw [List.getD_eq_getElem?_getD, List.getElem?_replicate]; split <;> rfl)
    refine Ev.step (f := fun k => _) (fun k => rfl) ?_
    obtain ⟨K, hK⟩ := A
    refine ⟨K, fun k hk => ?_⟩
    dsimp only
    rw [floodgatelaw09_AreaApart.l0]
    rw [if_neg (by omega)]
    have hl := starts_length b i
    have e : ((starts b i).length : Int) = (i : Int) + 2 := by omega
    rw [e]
    exact hK k hk
  | succ d ih =>
    intro i hi hd
    obtain ⟨K, hK⟩ := ih (i + 1) (by omega) (by omega)
    refine Ev.step (f := fun k => _) (fun k => rfl) ?_
    refine ⟨K + 2, fun k hk => ?_⟩
    obtain ⟨k, rfl⟩ : ∃ m, k = m + 2 := ⟨k - 2, by omega⟩
    dsimp only
    rw [floodgatelaw09_AreaApart.l0]
    have hl := starts_length b i
    rw [if_pos (by omega), Seg_in h1 h2 (by omega) (by omega)]
    simp only [Option.bind_some, if_true]
    rw [if_pos (by omega), starts_succ, w64 (x := (i : Int) + 1) (by omega) (by omega)]
    exact hK (k + 2) (by omega)
theorem xor_one (g : Int) (h0 : 0 ≤ g) (h1 : g < 18446744073709551616) : (Go.bits .xor .u64 g 1) % 2 = 1 - g % 2 ∧ 0 ≤ Go.bits .xor .u64 g 1 ∧ Go.bits .xor .u64 g 1 < 18446744073709551616 := by
  rw [u64_xor g 1 h0 h1 (by decide) (by decide)]
  obtain ⟨n, rfl⟩ := Int.eq_ofNat_of_zero_le h0
  simp only [Int.toNat_natCast]
  have e : (n ^^^ 1) % 2 = 1 - n % 2 := by
    have hx := Nat.xor_mod_two_eq_one (a := n) (b := 1)
    omega
  have hb : n ^^^ 1 < 2 ^ 64 := Nat.xor_lt_two_pow (by omega) (by omega)
  have e1 : (1 : Int).toNat = 1 := rfl
  rw [e1]
  omega
theorem Slot_of (g : Int) (h0 : 0 ≤ g) (_h1 : g < 18446744073709551616) : area_Slot.f g = some (g % 2 * 16) := by
  unfold area_Slot.f
  rw [Int.tmod_eq_emod_of_nonneg h0, w64 (x := g % 2) (by omega) (by omega), w64 (by omega) (by omega)]
theorem AreaApart : floodgatelaw09_AreaApart.Pure := by
  intro s g ws wg
  have hg : 0 ≤ g ∧ g < 18446744073709551616 := by
    have hmin : IntKind.u64.min = 0 := rfl
    have hmax : IntKind.u64.max = 18446744073709551615 := rfl
    simp only [Lit.wf, Bool.and_eq_true, decide_eq_true_eq, hmin, hmax] at wg
    omega
  by_cases h1 : s < 64
  · refine ⟨2, ?_⟩
    unfold floodgatelaw09_AreaApart.f
    rw [alive 0]
    simp only [Option.bind_some, if_true]
    unfold area_Segs.f
    rw [if_pos h1]
    simp only [Option.bind_some]
    rw [if_neg (by decide), if_pos trivial, if_pos h1]
  · by_cases h2 : s > 512
    · refine ⟨2, ?_⟩
      unfold floodgatelaw09_AreaApart.f
      rw [alive 0]
      simp only [Option.bind_some, if_true]
      unfold area_Segs.f
      rw [if_neg h1, if_pos h2]
      simp only [Option.bind_some]
      rw [if_neg (by decide), if_pos trivial, if_neg h1, decide_eq_true h2]
    · obtain ⟨n, hn⟩ : ∃ n : Nat, (n : Int) = (s - 32) / 16 := ⟨((s - 32) / 16).toNat, by omega⟩
      obtain ⟨x0, x1, x2⟩ := xor_one g hg.1 hg.2
      obtain ⟨K, hK⟩ := l0_runs (g % 2 * 16) (by omega) s (by omega) (by omega) n hn n 0 (by omega) (by omega)
      refine ⟨K + 2, ?_⟩
      unfold floodgatelaw09_AreaApart.f
      rw [alive K]
      simp only [Option.bind_some, if_true]
      rw [Segs_in (by omega) (by omega)]
      simp only [Option.bind_some, if_true]
      rw [if_pos (by omega), if_pos (by omega), Slot_of g hg.1 hg.2, Slot_of _ x1 x2, ← hn]
      simp only [Option.bind_some]
      have e : ([g % 2 * 16, Go.bits .xor .u64 g 1 % 2 * 16] : List Int) = starts (g % 2 * 16) 0 := by
        rw [x0]; simp [starts]; omega
      rw [e]
      exact hK (K + 2) (by omega)

end Go.Proofs.Ytlnpiofjhpklhaa.Pure
