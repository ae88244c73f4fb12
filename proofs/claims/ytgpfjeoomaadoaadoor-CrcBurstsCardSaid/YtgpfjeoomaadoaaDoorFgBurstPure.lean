/- The plain law of bursts: what is pushed through the register can't vanish within thirty-two bits. No program in sight. -/
import Derived.Test.YtgpfjeoomaadoaaDoorFgCrcSeal
set_option linter.unusedVariables false
set_option linter.unusedSimpArgs false
namespace Go.Proofs.YtgpfjeoomaadoaaDoor.Crc
open Go.Proofs.YtgpfjeoomaadoaaDoor.Fg

/-! The shift is injective. -/
theorem sh_eq_zero (a : BitVec 32) (h : sh a = 0#32) : a = 0#32 := by
  have key : ∀ x : BitVec 32, ((x <<< 1) ^^^ (if x.msb then 79764919#32 else 0#32)) = 0#32 → x = 0#32 := by
    intro x hx
    cases hm : x.msb
    · rw [hm] at hx
      simp only [Bool.false_eq_true, if_false, BitVec.xor_zero] at hx
      apply BitVec.eq_of_getLsbD_eq
      intro i hi
      have h1 : (x <<< 1).getLsbD (i + 1) = false := by rw [hx]; simp
      by_cases h31 : i = 31
      · subst h31
        rw [BitVec.msb_eq_getLsbD_last] at hm
        simpa using hm
      · rw [BitVec.getLsbD_shiftLeft] at h1
        have e1 : i + 1 < 32 := by omega
        simpa [e1] using h1
    · rw [hm] at hx
      have h0 : ((x <<< 1) ^^^ (if true = true then 79764919#32 else 0#32)).getLsbD 0 = false := by rw [hx]; simp
      rw [BitVec.getLsbD_xor] at h0
      simp at h0
  exact key a h
theorem shN_eq_zero (n : Nat) (a : BitVec 32) (h : shN n a = 0#32) : a = 0#32 := by
  induction n with
  | zero => exact h
  | succ n ih => exact ih (sh_eq_zero _ h)
theorem shN_add (n m : Nat) (a : BitVec 32) : shN (n + m) a = shN n (shN m a) := by
  induction n with
  | zero => rw [Nat.zero_add]; rfl
  | succ n ih => rw [show n + 1 + m = (n + m) + 1 by omega]; simp only [shN]; rw [ih]

/-! A register that is fed the bits of a function. -/
def run (s : BitVec 32) (E : Nat → Bool) : Nat → BitVec 32
  | 0 => s
  | n + 1 => push (run s E n) (E n)
theorem run_reg (s : BitVec 32) (l : List Int) (n : Nat) : reg s l n = run s (fun n => bitOf (l.getD (n / 8) 0) (n % 8)) n := by
  induction n with
  | zero => rfl
  | succ n ih => simp only [reg, run]; rw [ih]
theorem one_xor (a b : Bool) : one (a != b) = one a ^^^ one b := by cases a <;> cases b <;> decide
theorem push_xor (s t : BitVec 32) (a b : Bool) : push (s ^^^ t) (a != b) = push s a ^^^ push t b := by
  rw [push, push, push, ← sh_xor, one_xor]
  congr 1
  rw [BitVec.xor_assoc, BitVec.xor_assoc]
  congr 1
  rw [← BitVec.xor_assoc, ← BitVec.xor_assoc, BitVec.xor_comm t]
theorem run_xor (s t : BitVec 32) (E G : Nat → Bool) (n : Nat) : run (s ^^^ t) (fun i => E i != G i) n = run s E n ^^^ run t G n := by
  induction n with
  | zero => rfl
  | succ n ih => simp only [run]; rw [ih, push_xor]
theorem run_congr {s : BitVec 32} {E G : Nat → Bool} {n : Nat} (h : ∀ i, i < n → E i = G i) : run s E n = run s G n := by
  induction n with
  | zero => rfl
  | succ n ih => simp only [run]; rw [ih (fun i hi => h i (by omega)), h n (by omega)]
theorem push_no (s : BitVec 32) : push s false = sh s := by simp [push, one]
theorem run_more (s : BitVec 32) (E : Nat → Bool) (n : Nat) : ∀ k : Nat, run s E (n + k) = run (run s E n) (fun i => E (n + i)) k
  | 0 => rfl
  | k + 1 => by
    show push (run s E (n + k)) (E (n + k)) = _
    rw [run_more s E n k]
    rfl
theorem run_none (s : BitVec 32) (E : Nat → Bool) : ∀ n : Nat, (∀ i, i < n → E i = false) → run s E n = shN n s
  | 0, _ => rfl
  | n + 1, h => by
    simp only [run, shN]
    rw [run_none s E n (fun i hi => h i (by omega)), h n (by omega), push_no]
/-- The bits of a word, from the highest on. -/
theorem run_word (m : BitVec 32) : ∀ k : Nat, k ≤ 32 → shN k m = run 0#32 (fun i => m.getMsbD i) k ^^^ (m <<< k)
  | 0, _ => by simp [shN, run]
  | k + 1, hk => by
    have ih := run_word m k (by omega)
    have p : push (run 0#32 (fun i => m.getMsbD i) k) (m.getMsbD k) = sh (run 0#32 (fun i => m.getMsbD i) k) ^^^ (if m.getMsbD k then pol else 0#32) := by
      rw [push, sh_xor]
      cases m.getMsbD k <;> rfl
    have q : sh (m <<< k) = m <<< (k + 1) ^^^ (if m.getMsbD k then pol else 0#32) := by
      rw [sh, ← BitVec.shiftLeft_add, BitVec.msb_shiftLeft]
    simp only [shN, run]
    rw [ih, sh_xor, p, q, BitVec.xor_assoc, BitVec.xor_comm (m <<< (k + 1))]
theorem run_word32 (m : BitVec 32) : run 0#32 (fun i => m.getMsbD i) 32 = shN 32 m := by
  rw [run_word m 32 (Nat.le_refl _)]
  have : m <<< 32 = 0#32 := BitVec.shiftLeft_eq_zero (Nat.le_refl _)
  rw [this, BitVec.xor_zero]
/-- Bit n is turned. -/
def turned (at_ : Nat) (m : BitVec 32) (n : Nat) : Bool := decide (at_ ≤ n) && decide (n < at_ + 32) && m.getMsbD (n - at_)
/-- What is turned doesn't vanish. -/
theorem run_turned {at_ N : Nat} {m : BitVec 32} (hm : m ≠ 0#32) (hN : ∀ n, N ≤ n → turned at_ m n = false) : run 0#32 (turned at_ m) N ≠ 0#32 := by
  intro h
  have h1 : run 0#32 (turned at_ m) (at_ + 32 + N) = shN (at_ + 32) (run 0#32 (turned at_ m) N) := by
    rw [show at_ + 32 + N = N + (at_ + 32) by omega, run_more]
    exact run_none _ _ _ (fun i _ => hN _ (by omega))
  have h2 : run 0#32 (turned at_ m) (at_ + 32 + N) = shN N (run 0#32 (turned at_ m) (at_ + 32)) := by
    rw [run_more]
    refine run_none _ _ _ (fun i _ => ?_)
    have : ¬ (at_ + 32 + i < at_ + 32) := by omega
    simp only [turned, decide_eq_false this, Bool.and_false, Bool.false_and]
  have h3 : run 0#32 (turned at_ m) (at_ + 32) = shN 32 m := by
    rw [run_more, run_none 0#32 (turned at_ m) at_ (fun i hi => by simp [turned, show ¬ at_ ≤ i by omega]), shN_zero, ← run_word32]
    apply run_congr
    intro i hi
    simp [turned, hi]
  rw [h, shN_zero, h2, h3] at h1
  exact hm (shN_eq_zero 32 m (shN_eq_zero N _ h1))

/-! A seal's rest is always the same. -/
def bitsOf (l : List Int) (n : Nat) : Bool := bitOf (l.getD (n / 8) 0) (n % 8)
theorem bitOf_nat (n k : Nat) : bitOf (n : Int) k = Nat.testBit n (7 - k) := by
  rw [Nat.testBit_eq_decide_div_mod_eq, bitOf]
  have : ((n : Int) / 2 ^ (7 - k) % 2) = ((n / 2 ^ (7 - k) % 2 : Nat) : Int) := by norm_cast
  rw [this]
  have h2 : n / 2 ^ (7 - k) % 2 < 2 := Nat.mod_lt _ (by decide)
  rcases (show n / 2 ^ (7 - k) % 2 = 0 ∨ n / 2 ^ (7 - k) % 2 = 1 by omega) with h | h <;> rw [h] <;> rfl
theorem msbD_nat (t : BitVec 32) (i : Nat) (hi : i < 32) : t.getMsbD i = Nat.testBit t.toNat (31 - i) := by
  rw [BitVec.getMsbD_eq_getLsbD, BitVec.testBit_toNat]
  simp [hi]
theorem tail_bits (t : BitVec 32) (i : Nat) (hi : i < 32) : bitsOf (tailB t) i = t.getMsbD i := by
  have hlt := t.isLt
  rw [msbD_nat t i hi]
  have p24 : (2 : Nat) ^ 24 = 16777216 := by decide
  have p16 : (2 : Nat) ^ 16 = 65536 := by decide
  have p8 : (2 : Nat) ^ 8 = 256 := by decide
  have a0 : (t.toNat : Int) / (16777216 : Int) = ((t.toNat / 2 ^ 24 : Nat) : Int) := by rw [p24]; omega
  have a1 : (t.toNat : Int) / (65536 : Int) % (256 : Int) = ((t.toNat / 2 ^ 16 % 2 ^ 8 : Nat) : Int) := by rw [p16, p8]; omega
  have a2 : (t.toNat : Int) / (256 : Int) % (256 : Int) = ((t.toNat / 2 ^ 8 % 2 ^ 8 : Nat) : Int) := by rw [p8]; omega
  have a3 : (t.toNat : Int) % (256 : Int) = ((t.toNat % 2 ^ 8 : Nat) : Int) := by rw [p8]; omega
  have e0 : tailB t = [((t.toNat / 2 ^ 24 : Nat) : Int), ((t.toNat / 2 ^ 16 % 2 ^ 8 : Nat) : Int), ((t.toNat / 2 ^ 8 % 2 ^ 8 : Nat) : Int), ((t.toNat % 2 ^ 8 : Nat) : Int)] := by
    rw [tailB, a0, a1, a2, a3]
  clear p24 p16 p8 a0 a1 a2 a3
  rw [bitsOf, e0]
  have h8 : i % 8 < 8 := Nat.mod_lt _ (by decide)
  rcases (show i / 8 = 0 ∨ i / 8 = 1 ∨ i / 8 = 2 ∨ i / 8 = 3 by omega) with h | h | h | h <;> rw [h] <;> simp only [List.getD_cons_zero, List.getD_cons_succ, bitOf_nat, Nat.testBit_mod_two_pow, Nat.testBit_div_two_pow]
  · congr 1; omega
  · rw [show 7 - i % 8 + 16 = 31 - i by omega]; simp; omega
  · rw [show 7 - i % 8 + 8 = 31 - i by omega]; simp; omega
  · rw [show 7 - i % 8 = 31 - i by omega]; simp; omega
theorem feeds_run (s : BitVec 32) (l : List Int) (hb : Small l) : feeds s l = run s (bitsOf l) (8 * l.length) := by
  have h := reg_feeds s l hb l.length (Nat.le_refl _)
  rw [List.take_length] at h
  rw [← h, run_reg]
  rfl
theorem feeds_tail (s t : BitVec 32) : feeds s (tailB t) = shN 32 (s ^^^ t) := by
  rw [feeds_run s _ (tailB_small t)]
  have e : run s (bitsOf (tailB t)) (8 * (tailB t).length) = run s (fun i => t.getMsbD i) 32 := run_congr (fun i hi => tail_bits t i hi)
  rw [e, shN_xor, ← run_word32 t, ← run_none s (fun _ => false) 32 (fun _ _ => rfl), ← run_xor]
  simp
/-- The rest of a seal. -/
theorem seal_rest (l : List Int) (s : BitVec 32) : feeds s (l ++ tailB (~~~ (feeds s l))) = shN 32 (BitVec.allOnes 32) := by
  rw [feeds_append, feeds_tail]
  congr 1
  apply BitVec.eq_of_getLsbD_eq
  intro i hi
  simp only [BitVec.getLsbD_xor, BitVec.getLsbD_not, BitVec.getLsbD_allOnes, hi, decide_true, Bool.true_and]
  cases (feeds s l).getLsbD i <;> rfl

/-! Bits turned in bytes. -/
def flip (l : List Int) (n : Nat) : List Int := l.set (n / 8) (((l.getD (n / 8) 0).toNat ^^^ 2 ^ (7 - n % 8) : Nat) : Int)
theorem flip_length (l : List Int) (n : Nat) : (flip l n).length = l.length := by simp [flip]
theorem getD_small {l : List Int} (h : Small l) (i : Nat) : 0 ≤ l.getD i 0 ∧ l.getD i 0 ≤ 255 := by
  rw [List.getD_eq_getElem?_getD]
  by_cases hi : i < l.length
  · rw [List.getElem?_eq_getElem hi]; exact h _ (List.getElem_mem hi)
  · rw [List.getElem?_eq_none (by omega)]; simp
theorem flip_small {l : List Int} (h : Small l) (n : Nat) : Small (flip l n) := by
  intro x hx
  rcases List.mem_or_eq_of_mem_set hx with hx | rfl
  · exact h x hx
  · have h1 := getD_small h (n / 8)
    have h2 : (l.getD (n / 8) 0).toNat ^^^ 2 ^ (7 - n % 8) < 2 ^ 8 := Nat.xor_lt_two_pow (by omega) (Nat.pow_lt_pow_right (by decide) (by omega))
    omega
theorem flip_bits {l : List Int} (h : Small l) {n : Nat} (hn : n < 8 * l.length) (i : Nat) : bitsOf (flip l n) i = (bitsOf l i != decide (i = n)) := by
  have hd : n / 8 < l.length := by omega
  unfold bitsOf flip
  by_cases hi : i / 8 = n / 8
  · rw [hi]
    have e : (l.set (n / 8) (((l.getD (n / 8) 0).toNat ^^^ 2 ^ (7 - n % 8) : Nat) : Int)).getD (n / 8) 0 = (((l.getD (n / 8) 0).toNat ^^^ 2 ^ (7 - n % 8) : Nat) : Int) := by
      rw [List.getD_eq_getElem?_getD, List.getElem?_set_self hd]; rfl
    rw [e]
    have h1 := getD_small h (n / 8)
    obtain ⟨c, hc⟩ : ∃ c : Nat, l.getD (n / 8) 0 = c := ⟨(l.getD (n / 8) 0).toNat, by omega⟩
    rw [hc, Int.toNat_natCast, bitOf_nat, bitOf_nat, Nat.testBit_xor, Nat.testBit_two_pow]
    have e2 : decide (7 - n % 8 = 7 - i % 8) = decide (i = n) := by
      apply decide_eq_decide.2
      omega
    rw [e2]
  · have e : (l.set (n / 8) (((l.getD (n / 8) 0).toNat ^^^ 2 ^ (7 - n % 8) : Nat) : Int)).getD (i / 8) 0 = l.getD (i / 8) 0 := by
      rw [List.getD_eq_getElem?_getD, List.getElem?_set_ne (fun e => hi e.symm)]
      exact (List.getD_eq_getElem?_getD ..).symm
    rw [e, decide_eq_false (fun e => hi (by rw [e])), Bool.bne_false]
/-- The first k bits of the mask. -/
def fl (l : List Int) (at_ : Nat) (m : BitVec 32) : Nat → List Int
  | 0 => l
  | k + 1 => if m.getMsbD k then flip (fl l at_ m k) (at_ + k) else fl l at_ m k
theorem fl_length (l : List Int) (at_ : Nat) (m : BitVec 32) (k : Nat) : (fl l at_ m k).length = l.length := by
  induction k with
  | zero => rfl
  | succ k ih =>
    simp only [fl]
    split
    · rw [flip_length, ih]
    · exact ih
theorem fl_small {l : List Int} (h : Small l) (at_ : Nat) (m : BitVec 32) (k : Nat) : Small (fl l at_ m k) := by
  induction k with
  | zero => exact h
  | succ k ih =>
    simp only [fl]
    split
    · exact flip_small ih _
    · exact ih
/-- All bits that are turned are there. -/
def Fits (n at_ : Nat) (m : BitVec 32) : Prop := ∀ k, k < 32 → m.getMsbD k = true → at_ + k < 8 * n
theorem fl_bits {l : List Int} (h : Small l) {at_ : Nat} {m : BitVec 32} (hf : Fits l.length at_ m) : ∀ k, k ≤ 32 → ∀ i, bitsOf (fl l at_ m k) i = (bitsOf l i != (turned at_ m i && decide (i < at_ + k)))
  | 0, _, i => by
    have : (turned at_ m i && decide (i < at_ + 0)) = false := by
      unfold turned
      by_cases h1 : at_ ≤ i
      · rw [decide_eq_false (show ¬ i < at_ + 0 by omega), Bool.and_false]
      · rw [decide_eq_false h1]; simp
    rw [this, Bool.bne_false]
    rfl
  | k + 1, hk, i => by
    have ih := fl_bits h hf k (by omega) i
    simp only [fl]
    split
    · rename_i hm
      rw [flip_bits (fl_small h at_ m k) (by rw [fl_length]; exact hf k (by omega) hm), ih]
      by_cases hi : i = at_ + k
      · subst hi
        have ht : turned at_ m (at_ + k) = true := by simp [turned, hm]; omega
        rw [ht]
        simp
      · have e1 : decide (i < at_ + (k + 1)) = decide (i < at_ + k) := decide_eq_decide.2 (by omega)
        rw [e1, decide_eq_false hi, Bool.bne_false]
    · rename_i hm
      rw [ih]
      by_cases hi : i = at_ + k
      · subst hi
        have ht : turned at_ m (at_ + k) = false := by simp [turned, hm]
        rw [ht]
        simp
      · have e1 : decide (i < at_ + (k + 1)) = decide (i < at_ + k) := decide_eq_decide.2 (by omega)
        rw [e1]
def fits (n : Nat) (at_ : Int) (m : BitVec 32) : Bool := decide (0 ≤ at_) && (List.range 32).all (fun k => !(m.getMsbD k) || decide (at_ + k < 8 * n))
theorem fits_iff {n : Nat} {at_ : Int} {m : BitVec 32} : fits n at_ m = true ↔ 0 ≤ at_ ∧ Fits n at_.toNat m := by
  unfold fits Fits
  simp only [Bool.and_eq_true, decide_eq_true_eq, List.all_eq_true, List.mem_range, Bool.or_eq_true, Bool.not_eq_true']
  constructor
  · rintro ⟨h1, h2⟩
    refine ⟨h1, fun k hk hm => ?_⟩
    rcases h2 k hk with h3 | h3
    · rw [hm] at h3; cases h3
    · omega
  · rintro ⟨h1, h2⟩
    refine ⟨h1, fun k hk => ?_⟩
    cases hm : m.getMsbD k
    · exact .inl rfl
    · exact .inr (by have := h2 k hk hm; omega)
/-- The bytes with the bits of a mask turned. -/
def burst (l : List Int) (at_ : Int) (m : BitVec 32) : List Int := if fits l.length at_ m = true then fl l at_.toNat m 32 else l
theorem burst_length (l : List Int) (at_ : Int) (m : BitVec 32) : (burst l at_ m).length = l.length := by
  unfold burst
  split
  · exact fl_length ..
  · rfl
theorem burst_small {l : List Int} (h : Small l) (at_ : Int) (m : BitVec 32) : Small (burst l at_ m) := by
  unfold burst
  split
  · exact fl_small h _ _ _
  · exact h
theorem burst_bits {l : List Int} (h : Small l) {at_ : Int} {m : BitVec 32} (hf : fits l.length at_ m = true) (i : Nat) : bitsOf (burst l at_ m) i = (bitsOf l i != turned at_.toNat m i) := by
  rw [burst, if_pos hf, fl_bits h (fits_iff.1 hf).2 32 (Nat.le_refl _)]
  congr 1
  unfold turned
  by_cases h1 : i < at_.toNat + 32
  · rw [decide_eq_true h1]; simp
  · rw [decide_eq_false h1]; simp
/-- Bytes are their bits. -/
theorem bits_ext {l r : List Int} (hl : Small l) (hr : Small r) (hn : l.length = r.length) (h : ∀ i, i < 8 * l.length → bitsOf l i = bitsOf r i) : l = r := by
  apply List.ext_getElem hn
  intro i h1 h2
  have a := hl _ (List.getElem_mem h1)
  have b := hr _ (List.getElem_mem h2)
  obtain ⟨c, hc⟩ : ∃ c : Nat, l[i] = c := ⟨l[i].toNat, by omega⟩
  obtain ⟨d, hd⟩ : ∃ d : Nat, r[i] = d := ⟨r[i].toNat, by omega⟩
  rw [hc, hd]
  rw [hc] at a
  rw [hd] at b
  congr 1
  apply Nat.eq_of_testBit_eq
  intro k
  by_cases hk : k < 8
  · have e := h (8 * i + (7 - k)) (by omega)
    have e1 : (8 * i + (7 - k)) / 8 = i := by omega
    have e2 : (8 * i + (7 - k)) % 8 = 7 - k := by omega
    rw [bitsOf, bitsOf, e1, e2, List.getD_eq_getElem?_getD, List.getD_eq_getElem?_getD, List.getElem?_eq_getElem h1, List.getElem?_eq_getElem h2, Option.getD_some, Option.getD_some, hc, hd, bitOf_nat, bitOf_nat] at e
    rw [show 7 - (7 - k) = k by omega] at e
    exact e
  · have p : 2 ^ 8 ≤ 2 ^ k := Nat.pow_le_pow_right (by decide) (by omega)
    rw [Nat.testBit_lt_two_pow (by omega), Nat.testBit_lt_two_pow (by omega)]
/-- The same bits turned twice. -/
theorem burst_burst {l : List Int} (h : Small l) (at_ : Int) (m : BitVec 32) : burst (burst l at_ m) at_ m = l := by
  by_cases hf : fits l.length at_ m = true
  · have hl := burst_length l at_ m
    have hf2 : fits (burst l at_ m).length at_ m = true := by rw [hl]; exact hf
    refine bits_ext (burst_small (burst_small h _ _) _ _) h (by rw [burst_length, hl]) (fun i _ => ?_)
    rw [burst_bits (burst_small h _ _) hf2, burst_bits h hf]
    cases bitsOf l i <;> cases turned at_.toNat m i <;> rfl
  · have e : burst l at_ m = l := if_neg hf
    rw [e, e]
/-- No burst is overlooked. -/
theorem burst_found {l : List Int} (h : Small l) (at_ : Int) (m : BitVec 32) (t u : List Int) (hx : l = t ++ tailB (~~~ (feeds (BitVec.allOnes 32) t))) (hy : burst l at_ m = u ++ tailB (~~~ (feeds (BitVec.allOnes 32) u))) : burst l at_ m = l := by
  by_cases hf : fits l.length at_ m = true
  · by_cases hm : m = 0#32
    · refine bits_ext (burst_small h _ _) h (burst_length _ _ _) (fun i _ => ?_)
      rw [burst_bits h hf]
      have : turned at_.toNat m i = false := by rw [hm]; simp [turned]
      rw [this, Bool.bne_false]
    · exfalso
      have r1 : feeds (BitVec.allOnes 32) l = shN 32 (BitVec.allOnes 32) := by rw [hx]; exact seal_rest t _
      have r2 : feeds (BitVec.allOnes 32) (burst l at_ m) = shN 32 (BitVec.allOnes 32) := by rw [hy]; exact seal_rest u _
      rw [feeds_run _ _ h] at r1
      rw [feeds_run _ _ (burst_small h _ _), burst_length] at r2
      have r3 : run 0#32 (turned at_.toNat m) (8 * l.length) = 0#32 := by
        have e : run 0#32 (turned at_.toNat m) (8 * l.length) = run (BitVec.allOnes 32 ^^^ BitVec.allOnes 32) (fun i => bitsOf l i != bitsOf (burst l at_ m) i) (8 * l.length) := by
          rw [BitVec.xor_self]
          refine run_congr (fun i _ => ?_)
          rw [burst_bits h hf]
          cases bitsOf l i <;> cases turned at_.toNat m i <;> rfl
        rw [e, run_xor, r1, r2, BitVec.xor_self]
      refine run_turned hm (fun n hn => ?_) r3
      cases ht : turned at_.toNat m n
      · rfl
      · simp only [turned, Bool.and_eq_true, decide_eq_true_eq] at ht
        have := (fits_iff.1 hf).2 (n - at_.toNat) (by omega) ht.2
        omega
  · exact if_neg hf
end Go.Proofs.YtgpfjeoomaadoaaDoor.Crc
