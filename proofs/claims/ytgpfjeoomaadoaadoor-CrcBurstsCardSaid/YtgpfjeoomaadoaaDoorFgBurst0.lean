/- The table of the de Bruijn words; trailing zeros of a word; a row of bytes in a block of its own. Conditions: none beyond each lemma's own hypotheses. -/
import Derived.Test.YtgpfjeoomaadoaaDoorFgBurstPure
import Derived.Test.YtgpfjeoomaadoaaDoorFgCrcBit
import Derived.Test.YtgpfjeoomaadoaaDoorFgCut
import Derived.Shelf.Spec.TrailingZeros
set_option linter.unusedVariables false
set_option linter.unusedSimpArgs false
namespace Go.Proofs.YtgpfjeoomaadoaaDoor.Crc
open Go.RowKit Go.Proofs.YtgpfjeoomaadoaaDoor.Fg

/-- The table in its variable. -/
structure TabW (w : World) : Prop where
  lt : 0 < w.heap.size
  cells : ∀ j, j < 32 → w.cell? ⟨0, j, none⟩ = some (.int .u8 (Lib.deBruijn32tab.getD j 0))
theorem TabW.below {W w : World} (h : TabW W) (hb : Below W.heap.size W w) : TabW w :=
  ⟨Nat.lt_of_lt_of_le h.lt hb.size, fun j hj => (hb.cell (p := ⟨0, j, none⟩) h.lt).trans (h.cells j hj)⟩
theorem tz_core (x k idx : Nat) (w : World) (hx0 : ((x : Int) == 0) = false) (key : bits BinOp.and IntKind.u32 (x : Int) (-(x : Int) % 4294967296) * 125613361 % 4294967296 / 134217728 = (idx : Int))
    (hi : idx < 32) (hk : k < 32) (hcell : w.cell? ⟨0, idx, none⟩ = some (.int .u8 k)) :
    Calls Tryd.prog 14 #[.int .u32 x] w fun e w' => e = .returned (.int .i64 k) ∧ w' = w := by
  go_enter Tryd.func14, Tryd.ntmps14
  go_wp2_with (simp only [key])
  go_ret
  exact ⟨rfl, rfl⟩
theorem tz_zero (w : World) : Calls Tryd.prog 14 #[.int .u32 0] w fun e w' => e = .returned (.int .i64 32) ∧ w' = w := by
  go_enter Tryd.func14, Tryd.ntmps14
  go_wp2_with fail
  go_ret
  exact ⟨rfl, rfl⟩
theorem tz_any (x : Nat) (hx : x < 4294967296) (w : World) (hT : TabW w) : Calls Tryd.prog 14 #[.int .u32 x] w fun e w' => e = .returned (.int .i64 (Lib.ctz 32 x)) ∧ w' = w := by
  by_cases hx0 : x = 0
  · subst hx0
    exact tz_zero w
  · obtain ⟨hlow, hk⟩ := Lib.lowest_bit 32 x hx0 hx
    obtain ⟨hi, htab⟩ := Lib.deBruijn32_at _ hk
    have hcell := hT.cells _ hi
    rw [htab] at hcell
    exact tz_core x _ _ w (by simp; omega) (tz32_key x _ hx hx0 hlow) hi hk hcell
/-- The mask's last bit. -/
theorem fits_tz {n : Nat} {at_ : Int} {m : BitVec 32} (hm : m.toNat ≠ 0) : fits n at_ m = true ↔ 0 ≤ at_ ∧ at_ ≤ 8 * (n : Int) - 1 - (31 - (Lib.ctz 32 m.toNat : Int)) := by
  have hlt := m.isLt
  obtain ⟨j, hj, hc⟩ := Lib.ctzFrom_spec 32 m.toNat (by omega) hlt
  have hcz : Lib.ctz 32 m.toNat = Lib.ctzFrom 32 m.toNat := by rw [Lib.ctz, if_neg hm]
  rw [hcz]
  generalize Lib.ctzFrom 32 m.toNat = c at *
  have top : m.getMsbD (31 - c) = true := by
    rw [msbD_nat m _ (by omega), hj, show 31 - (31 - c) = c by omega, Nat.testBit_two_pow_mul]
    simp
  have low : ∀ k, k < 32 → m.getMsbD k = true → k ≤ 31 - c := by
    intro k hk h
    rw [msbD_nat m _ hk, hj, Nat.testBit_two_pow_mul] at h
    simp only [Bool.and_eq_true, decide_eq_true_eq] at h
    omega
  rw [fits_iff]
  constructor
  · rintro ⟨h1, h2⟩
    have := h2 (31 - c) (by omega) top
    omega
  · rintro ⟨h1, h2⟩
    refine ⟨h1, fun k hk hb => ?_⟩
    have := low k hk hb
    omega
theorem burst_zero {l : List Int} (at_ : Int) : burst l at_ 0#32 = l := by
  unfold burst
  split
  · have : ∀ k, fl l at_.toNat 0#32 k = l := by
      intro k
      induction k with
      | zero => rfl
      | succ k ih => rw [fl, if_neg (by simp), ih]
    exact this 32
  · rfl
theorem mask_test (m : BitVec 32) (k : Nat) (hk : k < 32) : (bits .and .u32 ((m.toNat : Int) / 2 ^ (31 - k)) 1 == 1) = m.getMsbD k := by
  have hlt := m.isLt
  have e1 : ((m.toNat : Int) / 2 ^ (31 - k)) = ((m.toNat / 2 ^ (31 - k) : Nat) : Int) := by norm_cast
  have h2 : m.toNat / 2 ^ (31 - k) ≤ m.toNat := Nat.div_le_self _ _
  have e2 : bits .and .u32 ((m.toNat / 2 ^ (31 - k) : Nat) : Int) ((1 : Nat) : Int) = ((m.toNat / 2 ^ (31 - k) &&& 1 : Nat) : Int) := bits_and_u32_nat _ _ (by omega) (by decide)
  rw [e1, show (1 : Int) = ((1 : Nat) : Int) from rfl, e2, Nat.and_one_is_mod, msbD_nat m k hk, Nat.testBit_eq_decide_div_mod_eq]
  rcases (show m.toNat / 2 ^ (31 - k) % 2 = 0 ∨ m.toNat / 2 ^ (31 - k) % 2 = 1 by omega) with h | h <;> rw [h] <;> rfl
theorem worth (j : Nat) (hj : j < 8) : (128 : Int) / 2 ^ j = ((2 ^ (7 - j) : Nat) : Int) := by
  rcases (show j = 0 ∨ j = 1 ∨ j = 2 ∨ j = 3 ∨ j = 4 ∨ j = 5 ∨ j = 6 ∨ j = 7 by omega) with h | h | h | h | h | h | h | h <;> subst h <;> rfl
theorem turn_byte {l : List Int} (h : Small l) (n : Nat) : bits .xor .u8 (l.getD (n / 8) 0) (128 / 2 ^ (n % 8)) = (((l.getD (n / 8) 0).toNat ^^^ 2 ^ (7 - n % 8) : Nat) : Int) := by
  have h1 := getD_small h (n / 8)
  have h2 : 2 ^ (7 - n % 8) < 2 ^ 8 := Nat.pow_lt_pow_right (by decide) (by omega)
  rw [worth (n % 8) (Nat.mod_lt _ (by decide))]
  generalize 2 ^ (7 - n % 8) = p at *
  rw [u8_xor _ _ h1.1 (by omega) (by omega) (by omega), Int.toNat_natCast]
/-- A row of bytes in block q. -/
def BRow (w0 : World) (q c : Nat) (l : List Int) (w : World) : Prop := ∃ cur : Array Value, w.heap[q]? = some (.cells cur 5 (0, 0)) ∧ l.length ≤ c ∧ c ≤ maxLen ∧ cur.size = c ∧ cur.toList.take l.length = bv l ∧ Below w0.heap.size w0 w ∧ w0.heap.size ≤ q
theorem BRow.own {w0 w : World} {q c : Nat} {l : List Int} (h : BRow w0 q c l w) : w.ownsRow w0.heap.size 5 1 (.slice (some ⟨q, 0, none⟩) l.length c) l.length (bv l) := by
  obtain ⟨cur, h1, h2, h3, h4, h5, h6, h7⟩ := h
  exact ⟨by simp [bv_length], .inr ⟨q, c, cur, rfl, h7, h1, h2, h3, by rw [Nat.mul_one]; exact h4, by rw [Nat.mul_one]; exact h5⟩⟩
theorem BRow.of_own {w0 w : World} {A : Option Addr} {c : Nat} {l : List Int} (h : w.ownsRow w0.heap.size 5 1 (.slice A l.length c) l.length (bv l)) (hn : 0 < l.length) (hb : Below w0.heap.size w0 w) : ∃ q, A = some ⟨q, 0, none⟩ ∧ BRow w0 q c l w := by
  rcases h.2 with ⟨_, h0⟩ | ⟨g, c', cur, hv, hbg, hg, hc, hm, hs, ht⟩
  · omega
  · injection hv with e1 e2 e3
    subst e3
    exact ⟨g, e1, cur, hg, hc, hm, by omega, by rw [Nat.mul_one] at ht; exact ht, hb, hbg⟩
theorem BRow.cell {w0 w : World} {q c : Nat} {l : List Int} (h : BRow w0 q c l w) {i : Nat} (hi : i < l.length) : w.cell? ⟨q, i, none⟩ = some (.int .u8 (l.getD i 0)) := by
  obtain ⟨cur, h1, h2, h3, h4, h5, h6, h7⟩ := h
  rw [cell_of_block h1, ← Array.getElem?_toList]
  have : (cur.toList.take l.length)[i]? = (bv l)[i]? := by rw [h5]
  rw [List.getElem?_take_of_lt hi] at this
  rw [this, bv, List.getElem?_map, List.getElem?_eq_getElem hi, List.getD_eq_getElem?_getD, List.getElem?_eq_getElem hi]
  rfl
theorem BRow.set {w0 w w' : World} {q c : Nat} {l : List Int} (h : BRow w0 q c l w) {i : Nat} (hi : i < l.length) (x : Int) (hb : Keep (fun b => b = q) w w')
    (hw : ∀ cur : Array Value, w.heap[q]? = some (.cells cur 5 (0, 0)) → w'.heap[q]? = some (.cells (cur.setIfInBounds i (.int .u8 x)) 5 (0, 0))) : BRow w0 q c (l.set i x) w' := by
  obtain ⟨cur, h1, h2, h3, h4, h5, h6, h7⟩ := h
  refine ⟨_, hw cur h1, by rw [List.length_set]; exact h2, h3, by simp; exact h4, ?_, Keep.below ((Keep.of_below h6).trans hb (fun k _ hk => by rw [hk]; exact h7)) (Nat.le_refl _) (fun i h => h), h7⟩
  rw [List.length_set, Array.toList_setIfInBounds, List.take_set, h5, bv, bv, List.map_set]
end Go.Proofs.YtgpfjeoomaadoaaDoor.Crc
