/- The plain law of floodgate's sums: bits shifted through a register of thirty-two. No program in sight. -/
import Derived.Test.YtogkibikghbghaaFgBase
import Derived.Laws.BitsAllLaws
namespace Go.Proofs.Ytogkibikghbghaa.Crc

def pol : BitVec 32 := 79764919#32
/-- One bit on. -/
def sh (s : BitVec 32) : BitVec 32 := (s <<< 1) ^^^ (if s.msb then pol else 0#32)
theorem sh_zero : sh 0#32 = 0#32 := by decide
theorem sh_xor (a b : BitVec 32) : sh (a ^^^ b) = sh a ^^^ sh b := by
  have e : (a ^^^ b) <<< 1 = (a <<< 1) ^^^ (b <<< 1) := BitVec.shiftLeft_xor_distrib a b 1
  simp only [sh, BitVec.msb_xor, e]
  cases a.msb <;> cases b.msb
  · simp
  · simp [BitVec.xor_assoc]
  · simp only [Bool.true_bne, Bool.not_false, if_true]
    rw [BitVec.xor_assoc, BitVec.xor_comm (b <<< 1) pol, ← BitVec.xor_assoc]
    simp
  · have : a <<< 1 ^^^ pol ^^^ (b <<< 1 ^^^ pol) = (a <<< 1 ^^^ b <<< 1) ^^^ (pol ^^^ pol) := by
      rw [BitVec.xor_assoc, BitVec.xor_assoc, ← BitVec.xor_assoc pol, BitVec.xor_comm pol (b <<< 1), BitVec.xor_assoc]
    simp [this]
/-- So many bits on. -/
def shN : Nat → BitVec 32 → BitVec 32
  | 0, s => s
  | n + 1, s => sh (shN n s)
theorem shN_xor (n : Nat) (a b : BitVec 32) : shN n (a ^^^ b) = shN n a ^^^ shN n b := by
  induction n with
  | zero => rfl
  | succ n ih => simp only [shN]; rw [ih, sh_xor]
theorem shN_zero (n : Nat) : shN n 0#32 = 0#32 := by
  induction n with
  | zero => rfl
  | succ n ih => simp only [shN]; rw [ih, sh_zero]
/-- A byte, at the register's high end. -/
def inj (c : Int) : BitVec 32 := (BitVec.ofInt 32 c) <<< 24
def feed (s : BitVec 32) (c : Int) : BitVec 32 := shN 8 (s ^^^ inj c)
def feeds (s : BitVec 32) (l : List Int) : BitVec 32 := l.foldl feed s
def more (s : BitVec 32) (l : List Int) : BitVec 32 := ~~~ (feeds (~~~ s) l)
def sumOf (l : List Int) : BitVec 32 := more 0#32 l
theorem feeds_append (s : BitVec 32) (l m : List Int) : feeds s (l ++ m) = feeds (feeds s l) m := List.foldl_append
theorem more_append (s : BitVec 32) (l m : List Int) : more s (l ++ m) = more (more s l) m := by
  simp only [more, BitVec.not_not, feeds_append]

/-! What the machine's operations do to such a register. -/
theorem u32_lt (s : BitVec 32) : s.toNat < 4294967296 := s.isLt
theorem x_xor (a b : BitVec 32) : bits .xor .u32 (a.toNat : Int) (b.toNat : Int) = ((a ^^^ b).toNat : Int) := by
  rw [u32_xor_nat _ _ a.isLt b.isLt, BitVec.toNat_xor]
theorem x_not (a : BitVec 32) : bits .xor .u32 IntKind.u32.max (a.toNat : Int) = ((~~~ a).toNat : Int) := by
  have e : IntKind.u32.max = (((BitVec.allOnes 32).toNat : Nat) : Int) := by decide
  rw [e, x_xor, BitVec.allOnes_xor]
theorem x_inj (c : Int) (h0 : 0 ≤ c) (h1 : c ≤ 255) : c * 16777216 = ((inj c).toNat : Int) := by
  obtain ⟨n, rfl⟩ : ∃ n : Nat, c = n := ⟨c.toNat, by omega⟩
  have e : BitVec.ofInt 32 (n : Int) = BitVec.ofNat 32 n := rfl
  simp only [inj, e, BitVec.toNat_shiftLeft, BitVec.toNat_ofNat, Nat.shiftLeft_eq]
  omega
theorem x_sh1 (s : BitVec 32) : (s.toNat : Int) * (2 : Int) % (4294967296 : Int) = ((s <<< 1).toNat : Int) := by
  simp only [BitVec.toNat_shiftLeft, Nat.shiftLeft_eq]
  omega
theorem x_pol (s : BitVec 32) : ((79764919 : Int) * ((s.toNat : Int) / (2147483648 : Int))) = ((if s.msb then pol else 0#32 : BitVec 32).toNat : Int) := by
  have hs := s.isLt
  by_cases h : s.toNat < 2147483648
  · have : s.msb = false := by rw [BitVec.msb_eq_decide]; simp; exact h
    rw [this]
    have : (s.toNat : Int) / 2147483648 = 0 := by omega
    rw [this]; simp
  · have : s.msb = true := by rw [BitVec.msb_eq_decide]; simp; omega
    rw [this]
    have : (s.toNat : Int) / 2147483648 = 1 := by omega
    rw [this]; simp [pol]
theorem x_step (s : BitVec 32) : bits .xor .u32 ((s.toNat : Int) * (2 : Int) % (4294967296 : Int)) ((79764919 : Int) * ((s.toNat : Int) / (2147483648 : Int))) = ((sh s).toNat : Int) := by
  rw [x_sh1, x_pol, x_xor]; rfl
theorem sumOf_nil : sumOf [] = 0#32 := by decide

/-! Bit by bit, from each byte's highest on: the document's way. -/
def one (b : Bool) : BitVec 32 := if b then 0x80000000#32 else 0#32
/-- One more bit. -/
def push (s : BitVec 32) (b : Bool) : BitVec 32 := sh (s ^^^ one b)
theorem push_eq (s : BitVec 32) (b : Bool) : push s b = (s <<< 1) ^^^ (if (s.msb != b) then pol else 0#32) := by
  cases b
  · simp [push, one, sh]
  · have e : (s ^^^ 0x80000000#32) <<< 1 = s <<< 1 := by
      rw [BitVec.shiftLeft_xor_distrib]
      have : (0x80000000#32 <<< 1) = 0#32 := by decide
      rw [this, BitVec.xor_zero]
    have m : (s ^^^ 0x80000000#32).msb = !s.msb := by
      rw [BitVec.msb_xor]
      have : (0x80000000#32).msb = true := by decide
      rw [this]; simp
    simp only [push, one, sh, if_true, e, m]
    cases s.msb <;> rfl
/-- Bit k of a byte, from the highest on. -/
def bitOf (c : Int) (k : Nat) : Bool := c / 2 ^ (7 - k) % 2 == 1
def pushes (s : BitVec 32) (c : Int) : Nat → BitVec 32
  | 0 => s
  | k + 1 => push (pushes s c k) (bitOf c k)
theorem inj_msb (c : Int) (h0 : 0 ≤ c) (h1 : c ≤ 255) (k : Nat) (hk : k < 8) : (inj c <<< k).msb = bitOf c k := by
  obtain ⟨n, rfl⟩ : ∃ n : Nat, c = n := ⟨c.toNat, by omega⟩
  have e : BitVec.ofInt 32 (n : Int) = BitVec.ofNat 32 n := rfl
  rw [BitVec.msb_shiftLeft, inj, e, BitVec.getMsbD_shiftLeft, BitVec.getMsbD_eq_getLsbD, BitVec.getLsbD_ofNat]
  have hb : bitOf (n : Int) k = Nat.testBit n (7 - k) := by
    rw [Nat.testBit_eq_decide_div_mod_eq, bitOf]
    have : ((n : Int) / 2 ^ (7 - k) % 2) = ((n / 2 ^ (7 - k) % 2 : Nat) : Int) := by norm_cast
    rw [this]
    have h2 : n / 2 ^ (7 - k) % 2 < 2 := Nat.mod_lt _ (by decide)
    rcases (show n / 2 ^ (7 - k) % 2 = 0 ∨ n / 2 ^ (7 - k) % 2 = 1 by omega) with h | h <;> rw [h] <;> rfl
  rw [hb]
  have e2 : 32 - 1 - (k + 24) = 7 - k := by omega
  rw [e2]
  have e3 : (k + 24 < 32) := by omega
  have e4 : (7 - k < 32) := by omega
  simp [e3, e4]
theorem pushes_eq (s : BitVec 32) (c : Int) (h0 : 0 ≤ c) (h1 : c ≤ 255) : ∀ k : Nat, k ≤ 8 → shN k (s ^^^ inj c) = pushes s c k ^^^ (inj c <<< k)
  | 0, _ => by simp [shN, pushes]
  | k + 1, hk => by
    have ih := pushes_eq s c h0 h1 k (by omega)
    have e : inj c <<< k <<< 1 = inj c <<< (k + 1) := by rw [BitVec.shiftLeft_add]
    have p : push (pushes s c k) (bitOf c k) = sh (pushes s c k) ^^^ (if bitOf c k then pol else 0#32) := by
      rw [push, sh_xor]
      cases bitOf c k <;> rfl
    simp only [shN, pushes]
    rw [ih, sh_xor, p]
    have q : sh (inj c <<< k) = inj c <<< (k + 1) ^^^ (if bitOf c k then pol else 0#32) := by
      rw [sh, e, inj_msb c h0 h1 k (by omega)]
    rw [q, BitVec.xor_assoc, BitVec.xor_comm (inj c <<< (k + 1))]
theorem feed_eq (s : BitVec 32) (c : Int) (h0 : 0 ≤ c) (h1 : c ≤ 255) : feed s c = pushes s c 8 := by
  rw [feed, pushes_eq s c h0 h1 8 (by decide)]
  have : inj c <<< 8 = 0#32 := by
    rw [inj, ← BitVec.shiftLeft_add]
    exact BitVec.shiftLeft_eq_zero (by decide)
  rw [this, BitVec.xor_zero]
/-- The register after n bits of a text. -/
def reg (s : BitVec 32) (l : List Int) : Nat → BitVec 32
  | 0 => s
  | n + 1 => push (reg s l n) (bitOf (l.getD (n / 8) 0) (n % 8))
theorem reg_part (s : BitVec 32) (l : List Int) (j : Nat) : ∀ k : Nat, k ≤ 8 → reg s l (8 * j + k) = pushes (reg s l (8 * j)) (l.getD j 0) k
  | 0, _ => rfl
  | k + 1, hk => by
    have ih := reg_part s l j k (by omega)
    have e1 : (8 * j + k) / 8 = j := by omega
    have e2 : (8 * j + k) % 8 = k := by omega
    show push (reg s l (8 * j + k)) (bitOf (l.getD ((8 * j + k) / 8) 0) ((8 * j + k) % 8)) = _
    rw [e1, e2, ih]
    rfl
theorem reg_feeds (s : BitVec 32) (l : List Int) (hb : ∀ x ∈ l, 0 ≤ x ∧ x ≤ 255) : ∀ j : Nat, j ≤ l.length → reg s l (8 * j) = feeds s (l.take j)
  | 0, _ => rfl
  | j + 1, hj => by
    have ih := reg_feeds s l hb j (by omega)
    have e : 8 * (j + 1) = 8 * j + 8 := by omega
    have hx := hb _ (List.getElem_mem (by omega : j < l.length))
    rw [e, reg_part s l j 8 (Nat.le_refl _), ih, List.take_add_one, List.getElem?_eq_getElem (by omega : j < l.length), feeds_append]
    rw [List.getD_eq_getElem?_getD, List.getElem?_eq_getElem (by omega : j < l.length)]
    show _ = feed (feeds s (l.take j)) l[j]
    rw [feed_eq _ _ hx.1 hx.2]
    rfl

end Go.Proofs.Ytogkibikghbghaa.Crc
