/- Contracts of the document's answers for the crc layer. Conditions: none beyond each lemma's own hypotheses. -/
import Derived.Test.YtogkibikghbghaaFgCrcBit
namespace Go.Proofs.Ytogkibikghbghaa.Crc
open Go.RowKit Go.Proofs.Ytogkibikghbghaa.Fg

theorem xor_next (a b j : Nat) : (a ^^^ b) % 2 ^ (j + 1) = (a ^^^ b) % 2 ^ j + (if a / 2 ^ j % 2 = b / 2 ^ j % 2 then 0 else 2 ^ j) := by
  rw [Nat.mod_pow_succ]
  have e : (a ^^^ b) / 2 ^ j % 2 = if a / 2 ^ j % 2 = b / 2 ^ j % 2 then 0 else 1 := by
    have h := Nat.testBit_xor a b j
    simp only [Nat.testBit_eq_decide_div_mod_eq] at h
    have h1 : (a ^^^ b) / 2 ^ j % 2 < 2 := Nat.mod_lt _ (by decide)
    have h2 : a / 2 ^ j % 2 < 2 := Nat.mod_lt _ (by decide)
    have h3 : b / 2 ^ j % 2 < 2 := Nat.mod_lt _ (by decide)
    generalize (a ^^^ b) / 2 ^ j % 2 = x at *
    generalize a / 2 ^ j % 2 = y at *
    generalize b / 2 ^ j % 2 = z at *
    rcases (show y = 0 ∨ y = 1 by omega) with rfl | rfl <;> rcases (show z = 0 ∨ z = 1 by omega) with rfl | rfl <;> rcases (show x = 0 ∨ x = 1 by omega) with rfl | rfl <;> simp_all
  rw [e]
  split <;> simp

set_option maxRecDepth 100000 in
theorem xor_any (a b : Nat) (ha : a < 4294967296) (hb : b < 4294967296) (w : World) :
    Calls Try.prog 85 #[.int .u64 a, .int .u64 b] w fun e w' => e = .returned (.int .u64 (a ^^^ b : Nat)) ∧ w' = w := by
  go_enter Try.func85, Try.ntmps85
  go_wp2_with fail
  go_loopg [0, 1, 5, 6, 7] 32 (fun k x y o wo n wr => ∃ j : Nat, j + k = 32 ∧ n = .int .i64 j ∧ x = .int .u64 (a / 2 ^ j : Nat) ∧ y = .int .u64 (b / 2 ^ j : Nat) ∧ o = .int .u64 ((a ^^^ b) % 2 ^ j : Nat) ∧ wo = .int .u64 (2 ^ j : Nat) ∧ wr = w)
  case atStart => exact ⟨0, rfl, rfl, by simp, by simp, by simp [Nat.mod_one], rfl, rfl⟩
  case round =>
    obtain ⟨j, hj, rfl, rfl, rfl, rfl, rfl, rfl⟩ := hrel
    by_cases hlt : j < 32
    · have hp : 2 ^ j ≤ 2147483648 := Nat.pow_le_pow_right (by decide) (by omega : j ≤ 31)
      have ho : (a ^^^ b) % 2 ^ j < 2 ^ j := Nat.mod_lt _ (Nat.two_pow_pos j)
      obtain ⟨p2, hp2⟩ : ∃ p2, 2 ^ (j + 1) = p2 := ⟨_, rfl⟩
      have hp2' : p2 = 2 ^ j * 2 := by rw [← hp2, Nat.pow_succ]
      have n1 := xor_next a b j
      have n2 : a / p2 = a / 2 ^ j / 2 := by rw [hp2', Nat.div_div_eq_div_mul]
      have n3 : b / p2 = b / 2 ^ j / 2 := by rw [hp2', Nat.div_div_eq_div_mul]
      rw [hp2] at n1
      have hxl : a / 2 ^ j ≤ a := Nat.div_le_self _ _
      have hyl : b / 2 ^ j ≤ b := Nat.div_le_self _ _
      generalize a / 2 ^ j = x at *
      generalize b / 2 ^ j = y at *
      generalize (a ^^^ b) % 2 ^ j = o at *
      generalize 2 ^ j = p at *
      by_cases hxy : x % 2 = y % 2
      · rw [if_pos hxy] at n1
        have hxy' : (x : Int) % 2 = (y : Int) % 2 := by omega
        have N1 := Lib.hid n1
        have N2 := Lib.hid n2
        have N3 := Lib.hid n3
        have HP := Lib.hid hp2
        have HP' := Lib.hid hp2'
        clear n1 n2 n3 hp2 hp2' hxy
        go_wp2_with fail
        go_roundg (gk - 1)
        case measure => omega
        case rel => exact ⟨j + 1, by omega, by go_num, by rw [HP.out, N2.out]; simp, by rw [HP.out, N3.out]; simp, by rw [HP.out, N1.out]; simp, by rw [HP.out, HP'.out]; simp, rfl⟩
      · rw [if_neg hxy] at n1
        have hxy' : ((x : Int) % 2 == (y : Int) % 2) = false := by rw [beq_eq_false_iff_ne]; omega
        have N1 := Lib.hid n1
        have N2 := Lib.hid n2
        have N3 := Lib.hid n3
        have HP := Lib.hid hp2
        have HP' := Lib.hid hp2'
        clear n1 n2 n3 hp2 hp2' hxy
        go_wp2_with fail
        go_roundg (gk - 1)
        case measure => omega
        case rel => exact ⟨j + 1, by omega, by go_num, by rw [HP.out, N2.out]; simp, by rw [HP.out, N3.out]; simp, by rw [HP.out, N1.out]; simp, by rw [HP.out, HP'.out]; simp, rfl⟩
    · have hjl : j = 32 := by omega
      subst hjl
      have hx : a ^^^ b < 2 ^ 32 := Nat.xor_lt_two_pow (by omega) (by omega)
      have he : (a ^^^ b) % 2 ^ 32 = a ^^^ b := Nat.mod_eq_of_lt hx
      rw [he]
      clear he hx
      go_wp2_with fail
      go_ret
      exact ⟨rfl, rfl⟩

theorem msb_dec (r : BitVec 32) : decide ((2147483648 : Int) ≤ (r.toNat : Int)) = r.msb := by
  rw [BitVec.msb_eq_decide]
  by_cases h : 2147483648 ≤ r.toNat
  · rw [decide_eq_true (by omega), decide_eq_true (by simpa using h)]
  · rw [decide_eq_false (by omega), decide_eq_false (by simpa using h)]
theorem x_two (r : BitVec 32) : (r.toNat : Int) * (2 : Int) % (4294967296 : Int) = ((r <<< 1).toNat : Int) := x_sh1 r
theorem x_flip (r : BitVec 32) : (4294967295 : Int) - (r.toNat : Int) = ((~~~ r).toNat : Int) := by
  have := r.isLt
  rw [BitVec.toNat_not]
  omega

set_option maxRecDepth 100000 in
theorem refof_any (l : List Int) (hb : Small l) (hl : l.length ≤ 1000000) (A : Option Addr) (c : Nat) (w : World) (hs : Src w A l.length c (bv l)) :
    Calls Try.prog 76 #[.slice A l.length c] w fun e w' => e = .returned (.int .u32 (sumOf l).toNat) ∧ w' = w := by
  have HS := Lib.hid hs
  have HB := Lib.hid hb
  clear hs hb
  go_enter Try.func76, Try.ntmps76
  go_wp2_with fail
  go_loopg [3, 4] (8 * l.length) (fun k r n wr => ∃ j : Nat, j + k = 8 * l.length ∧ n = .int .i64 j ∧ r = .int .u64 (reg (~~~ 0#32) l j).toNat ∧ wr = w)
  case atStart => exact ⟨0, Nat.zero_add _, rfl, rfl, rfl⟩
  case round =>
    obtain ⟨j, hj, rfl, rfl, rfl⟩ := hrel
    by_cases hlt : j < 8 * l.length
    · have hn : reg (~~~ 0#32) l (j + 1) = push (reg (~~~ 0#32) l j) (bitOf (l.getD (j / 8) 0) (j % 8)) := rfl
      have HC := Lib.hid (bit_any l HB.out j hlt hl A c wr HS.out)
      have HN := Lib.hid hn
      clear hn
      generalize bitOf (l.getD (j / 8) 0) (j % 8) = b at HC HN
      generalize reg (~~~ 0#32) l j = r at HN ⊢
      have hr := r.isLt
      have HM := Lib.hid (msb_dec r)
      have HPX : Hid ((r <<< 1 ^^^ pol).toNat = (r.toNat <<< 1 % 4294967296) ^^^ 79764919) := Lib.hid (by rw [BitVec.toNat_xor, BitVec.toNat_shiftLeft]; rfl)
      go_wp2_with fail
      refine HC.out.mono ?_
      rintro e w' ⟨rfl, rfl⟩
      rw [HM.out]
      by_cases hm : r.msb = true
      · have HP := Lib.hid (push_eq r b)
        rw [hm] at HP ⊢
        clear hm
        cases b
        · simp only [Bool.bne_false, if_true] at HP
          go_wp2_with fail
          have hx := xor_any (r <<< 1).toNat 79764919 (r <<< 1).isLt (by decide) w'
          rw [x_two]
          refine hx.mono ?_
          rintro e w'' ⟨rfl, rfl⟩
          go_wp2_with fail
          go_roundg (gk - 1)
          case measure => omega
          case rel => exact ⟨j + 1, by omega, by go_num, by rw [HN.out, HP.out, HPX.out], rfl⟩
        · simp only [Bool.bne_true, Bool.not_true, Bool.false_eq_true, if_false, BitVec.xor_zero] at HP
          go_wp2_with fail
          rw [x_two]
          go_roundg (gk - 1)
          case measure => omega
          case rel => exact ⟨j + 1, by omega, by go_num, by rw [HN.out, HP.out], rfl⟩
      · have hm' : r.msb = false := by simpa using hm
        have HP := Lib.hid (push_eq r b)
        rw [hm'] at HP ⊢
        clear hm hm'
        cases b
        · simp only [Bool.bne_false, Bool.false_eq_true, if_false, BitVec.xor_zero] at HP
          go_wp2_with fail
          rw [x_two]
          go_roundg (gk - 1)
          case measure => omega
          case rel => exact ⟨j + 1, by omega, by go_num, by rw [HN.out, HP.out], rfl⟩
        · simp only [Bool.bne_true, Bool.not_false, if_true] at HP
          go_wp2_with fail
          have hx := xor_any (r <<< 1).toNat 79764919 (r <<< 1).isLt (by decide) w'
          rw [x_two]
          refine hx.mono ?_
          rintro e w'' ⟨rfl, rfl⟩
          go_wp2_with fail
          go_roundg (gk - 1)
          case measure => omega
          case rel => exact ⟨j + 1, by omega, by go_num, by rw [HN.out, HP.out, HPX.out], rfl⟩
    · have hjl : j = 8 * l.length := by omega
      go_wp2_with fail
      rw [x_flip]
      go_ret
      subst hjl
      rw [reg_feeds _ l HB.out l.length (Nat.le_refl _), List.take_length]
      exact ⟨rfl, rfl⟩

end Go.Proofs.Ytogkibikghbghaa.Crc
