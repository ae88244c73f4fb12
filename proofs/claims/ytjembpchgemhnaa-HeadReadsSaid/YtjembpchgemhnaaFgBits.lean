/- What the machine's bitwise operations come to on small numbers. No conditions beyond each lemma's own hypotheses. -/
import Derived.Test.YtjembpchgemhnaaFgBase
import Derived.Laws.BitsAllLaws
set_option linter.unusedVariables false
namespace Go.Proofs.Ytjembpchgemhnaa.Fg

theorem and_u64_16 (x : Int) (h0 : 0 ≤ x) (h1 : x < 18446744073709551616) : bits .and .u64 x 65535 = x % 65536 := by
  rw [u64_and x 65535 h0 h1 (by decide) (by decide), show (65535 : Int).toNat = 65535 from rfl, nat_mask16]
  omega
theorem not_u16 (x : Int) (h0 : 0 ≤ x) (h1 : x ≤ 65535) : bits .xor .u16 IntKind.u16.max x = 65535 - x := by
  have e : IntKind.u16.max = ((65535 : Nat) : Int) := by decide
  obtain ⟨n, rfl⟩ : ∃ n : Nat, x = n := ⟨x.toNat, by omega⟩
  rw [e, u16_xor_nat 65535 n (by decide) (by omega)]
  have h := Nat.xor_lt_two_pow (x := 65535) (y := n) (n := 16) (by decide) (by omega)
  have k : (BitVec.ofNat 16 65535 ^^^ BitVec.ofNat 16 n).toNat = (~~~ (BitVec.ofNat 16 n)).toNat := by
    have : BitVec.ofNat 16 65535 = BitVec.allOnes 16 := by decide
    rw [this, BitVec.allOnes_xor]
  rw [BitVec.toNat_xor, BitVec.toNat_not] at k
  simp only [BitVec.toNat_ofNat] at k
  rw [Nat.mod_eq_of_lt (by omega : n < 2 ^ 16)] at k
  simp only [show 65535 % 2 ^ 16 = 65535 from rfl] at k
  omega
theorem and_u8_15 (x : Int) (h0 : 0 ≤ x) (h1 : x ≤ 255) : bits .and .u8 x 15 = x % 16 := by
  rw [u8_and x 15 h0 (by omega) (by decide) (by decide), show (15 : Int).toNat = 15 from rfl, nat_mask4]
  omega
theorem or_i64 (x y : Nat) (hx : x < 9223372036854775808) (hy : y < 9223372036854775808) : bits .or .i64 (x : Int) (y : Int) = ((x ||| y : Nat) : Int) := by
  have h := Nat.or_lt_two_pow (x := x) (y := y) (n := 63) (by omega) (by omega)
  show IntKind.i64.wrap ((BitVec.ofInt 64 (x : Int) ||| BitVec.ofInt 64 (y : Int)).toNat : Int) = _
  rw [BitVec.toNat_or, ofInt_u64 x (by omega), ofInt_u64 y (by omega), IntKind.wrap_i64]
  omega
theorem or_i64_8 (x y : Int) (h0 : 0 ≤ x) (h1 : x ≤ 1000000) (h2 : 0 ≤ y) (h3 : y ≤ 255) : bits .or .i64 (x * 256) y = x * 256 + y := by
  obtain ⟨n, rfl⟩ : ∃ n : Nat, x = n := ⟨x.toNat, by omega⟩
  obtain ⟨m, rfl⟩ : ∃ m : Nat, y = m := ⟨y.toNat, by omega⟩
  have e : (n : Int) * 256 = ((n * 256 : Nat) : Int) := by omega
  rw [e, or_i64 _ _ (by omega) (by omega), nat_join 8 (n * 256) m (by omega) (by omega)]
  omega
theorem or_i64_64 (x : Int) (h0 : 0 ≤ x) (h1 : x ≤ 63) : bits .or .i64 64 x = 64 + x := by
  obtain ⟨n, rfl⟩ : ∃ n : Nat, x = n := ⟨x.toNat, by omega⟩
  have e : (64 : Int) = ((64 : Nat) : Int) := rfl
  rw [e, or_i64 _ _ (by omega) (by omega), nat_join 6 64 n (by omega) (by omega)]
  omega
end Go.Proofs.Ytjembpchgemhnaa.Fg
