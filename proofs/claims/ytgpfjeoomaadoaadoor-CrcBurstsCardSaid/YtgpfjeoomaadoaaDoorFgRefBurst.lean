/- Contract of the document's Burst. Conditions: none beyond each lemma's own hypotheses. -/
import Derived.Test.YtgpfjeoomaadoaaDoorFgBurst1
set_option linter.unusedVariables false
set_option linter.unusedSimpArgs false
namespace Go.Proofs.YtgpfjeoomaadoaaDoor.Crc
open Go.RowKit Go.Proofs.YtgpfjeoomaadoaaDoor.Fg

theorem mask_test2 (m : BitVec 32) (k : Nat) (hk : k < 32) : ((m.toNat : Int) / 2 ^ (31 - k)).tmod 2 = if m.getMsbD k then 1 else 0 := by
  have e1 : ((m.toNat : Int) / 2 ^ (31 - k)) = ((m.toNat / 2 ^ (31 - k) : Nat) : Int) := by norm_cast
  rw [e1, Int.tmod_eq_emod_of_nonneg (Int.natCast_nonneg _), msbD_nat m k hk, Nat.testBit_eq_decide_div_mod_eq]
  rcases (show m.toNat / 2 ^ (31 - k) % 2 = 0 ∨ m.toNat / 2 ^ (31 - k) % 2 = 1 by omega) with h | h
  · have h' : ((m.toNat / 2 ^ (31 - k) : Nat) : Int) % 2 = 0 := by omega
    rw [h', h]; rfl
  · have h' : ((m.toNat / 2 ^ (31 - k) : Nat) : Int) % 2 = 1 := by omega
    rw [h', h]; rfl
/-- The checks so far. -/
def Chk (n : Nat) (at_ : Int) (m : BitVec 32) (k : Nat) : Prop := ∀ j, j < k → m.getMsbD j = true → 0 ≤ at_ ∧ at_ + j < 8 * n
theorem worth_kernel : ∀ c : Fin 256, ∀ j : Fin 8, (Nat.testBit c.val (7 - j.val) = true → (c.val : Int) - (2 ^ (7 - j.val) : Nat) = ((c.val ^^^ 2 ^ (7 - j.val) : Nat) : Int)) ∧ (Nat.testBit c.val (7 - j.val) = false → (c.val : Int) + (2 ^ (7 - j.val) : Nat) = ((c.val ^^^ 2 ^ (7 - j.val) : Nat) : Int)) := by decide +kernel
theorem turn_plain {l : List Int} (h : Small l) (n : Nat) : (bitOf (l.getD (n / 8) 0) (n % 8) = true → l.getD (n / 8) 0 - 128 / 2 ^ (n % 8) = (((l.getD (n / 8) 0).toNat ^^^ 2 ^ (7 - n % 8) : Nat) : Int)) ∧ (bitOf (l.getD (n / 8) 0) (n % 8) = false → l.getD (n / 8) 0 + 128 / 2 ^ (n % 8) = (((l.getD (n / 8) 0).toNat ^^^ 2 ^ (7 - n % 8) : Nat) : Int)) := by
  have h1 := getD_small h (n / 8)
  obtain ⟨c, hc⟩ : ∃ c : Nat, l.getD (n / 8) 0 = c := ⟨(l.getD (n / 8) 0).toNat, by omega⟩
  rw [hc, bitOf_nat, Int.toNat_natCast, worth (n % 8) (Nat.mod_lt _ (by decide))]
  exact worth_kernel ⟨c, by omega⟩ ⟨n % 8, Nat.mod_lt _ (by decide)⟩
theorem fl_none {l : List Int} {a : Nat} {m : BitVec 32} (h : ∀ j, j < 32 → m.getMsbD j = false) : ∀ k, k ≤ 32 → fl l a m k = l
  | 0, _ => rfl
  | k + 1, hk => by rw [fl, h k (by omega), fl_none h k (by omega)]; rfl
theorem Chk.burst {l : List Int} {at_ : Int} {m : BitVec 32} (h : Chk l.length at_ m 32) : Crc.burst l at_ m = fl l at_.toNat m 32 := by
  by_cases hf : fits l.length at_ m = true
  · exact if_pos hf
  · have e : Crc.burst l at_ m = l := if_neg hf
    rw [e]
    by_cases ha : 0 ≤ at_
    · exact absurd (fits_iff.2 ⟨ha, fun k hk hb => by have := h k hk hb; omega⟩) hf
    · refine (fl_none (fun j hj => ?_) 32 (Nat.le_refl _)).symm
      cases hb : m.getMsbD j
      · rfl
      · exact absurd (h j hj hb).1 ha
set_option maxRecDepth 100000 in
set_option maxHeartbeats 2000000 in
theorem refburst_any (l : List Int) (hb : Small l) (hn : l.length ≤ 100000) (at_ : Int) (hat : -9223372036854775808 ≤ at_ ∧ at_ ≤ 9223372036854775807) (m : BitVec 32) (A : Option Addr) (c : Nat) (w : World) (hs : Fg.Src w A l.length c (bv l)) :
    Calls Tryd.prog 8 #[.slice A l.length c, .int .i64 at_, .int .u32 m.toNat] w (BurstMade l (burst l at_ m) w) := by
  have hm := m.isLt
  have HSM := Lib.hid hb
  have HS := Lib.hid hs
  clear hs hb
  go_enter Tryd.func8, Tryd.ntmps8
  go_wp2_with (at_builtin; refine wpList_append_any rfl (.tmp 12) (.tmp 13) 22 rfl w.heap.size 5 (.int .u8 0) 1 1 Tryd.underlying22 info_u8 rfl (by decide) (by decide) (.slice (some ⟨w.heap.size, 0, none⟩) 0 0) 0 [] rfl ?a1 A l.length c (bv l) rfl ?a2 ?a3 (bv_one l) ?a5 ?a6 ?a7)
  case a1 => exact World.ownsRow_made w #[] 0 (Nat.le_refl _) (Nat.zero_le _) rfl
  case a2 => exact HS.out.same fun ad had hne => heap_alloc_old _ _ (HS.out.lt had hne)
  case a3 => simp [bv]
  case a5 => omega
  case a6 => simp
  intro v1 w1 ho1 hg1 _ _
  have hb1 : Below w.heap.size w w1 := ((Below.refl _ _).alloc (Nat.le_refl _) (.cells #[] 5)).grown hg1 (by simp) (by simp [Value.ownBlock])
  try simp only [Nat.zero_add, List.nil_append] at ho1
  obtain ⟨A1, c1, rfl, -⟩ := own_form ho1
  have HO1 := Lib.hid ho1
  have HB1 := Lib.hid hb1
  clear ho1 hg1 hb1
  go_wp2_with fail
  go_loopg [8] 32 (fun g v wr => ∃ k : Nat, k + g = 32 ∧ v = .int .i64 k ∧ w1 = wr ∧ Chk l.length at_ m k)
  case atStart => exact ⟨0, rfl, rfl, rfl, fun j hj => absurd hj (Nat.not_lt_zero _)⟩
  case round =>
    obtain ⟨k, hk, rfl, rfl, hck⟩ := hrel
    have HC := Lib.hid hck
    clear hck
    by_cases hk32 : k < 32
    · have mt := mask_test2 m k hk32
      have hk0 : (0 : Int) ≤ 31 - (k : Int) := by omega
      cases hkb : m.getMsbD k
      · rw [hkb] at mt
        simp only [Bool.false_eq_true, if_false] at mt
        have CN : Hid (Chk l.length at_ m (k + 1)) := Lib.hid (fun j hj hb => by
          by_cases h : j = k
          · subst h; rw [hkb] at hb; cases hb
          · exact HC.out j (by omega) hb)
        have MT := Lib.hid mt
        clear hkb mt
        go_wp2_with (first | rw [MT.out])
        go_roundg (gk - 1)
        case measure => omega
        case rel => exact ⟨k + 1, by omega, by go_num, rfl, CN.out⟩
      · rw [hkb] at mt
        simp only [if_true] at mt
        have MT := Lib.hid mt
        have HKB := Lib.hid hkb
        have no : Hid (¬ (0 ≤ at_ ∧ at_ + k < 8 * l.length) → burst l at_ m = l) := Lib.hid (fun h => if_neg (fun hf => h (by have h1 := fits_iff.1 hf; have h2 := h1.2 k hk32 hkb; omega)))
        clear hkb mt
        by_cases ha : at_ < 0
        · go_wp2_with (first | rw [MT.out])
          go_ret
          exact ⟨A1, c1, rfl, by rw [no.out (by omega)]; exact HO1.out, HB1.out⟩
        · by_cases h3 : 8 * (l.length : Int) - (k : Int) ≤ at_
          · go_wp2_with (first | rw [MT.out])
            go_ret
            exact ⟨A1, c1, rfl, by rw [no.out (by omega)]; exact HO1.out, HB1.out⟩
          · have CN : Hid (Chk l.length at_ m (k + 1)) := Lib.hid (fun j hj hb => by
              by_cases h : j = k
              · subst h; omega
              · exact HC.out j (by omega) hb)
            go_wp2_with (first | rw [MT.out])
            go_roundg (gk - 1)
            case measure => omega
            case rel => exact ⟨k + 1, by omega, by go_num, rfl, CN.out⟩
    · obtain rfl : k = 32 := by omega
      have BU := Lib.hid HC.out.burst
      go_wp2_with fail
      clear hk32
      go_loopg [9] 32 (fun g v wr => ∃ k : Nat, k + g = 32 ∧ v = .int .i64 k ∧ wr.ownsRow w.heap.size 5 1 (.slice A1 l.length c1) l.length (bv (fl l at_.toNat m k)) ∧ Below w.heap.size w wr)
      case atStart => exact ⟨0, rfl, rfl, HO1.out, HB1.out⟩
      case round =>
        obtain ⟨k, hk, rfl, ho, hbw⟩ := hrel
        have HO := Lib.hid ho
        have HBW := Lib.hid hbw
        clear ho hbw
        by_cases hk32 : k < 32
        · have mt := mask_test2 m k hk32
          have hk0 : (0 : Int) ≤ 31 - (k : Int) := by omega
          cases hkb : m.getMsbD k
          · rw [hkb] at mt
            simp only [Bool.false_eq_true, if_false] at mt
            have FL : Hid (fl l at_.toNat m (k + 1) = fl l at_.toNat m k) := Lib.hid (by rw [fl, hkb]; rfl)
            have MT := Lib.hid mt
            clear hkb mt
            go_wp2_with (first | rw [MT.out])
            go_roundg (gk - 1)
            case measure => omega
            case rel => exact ⟨k + 1, by omega, by go_num, by rw [FL.out]; exact HO.out, HBW.out⟩
          · rw [hkb] at mt
            simp only [if_true] at mt
            have MT := Lib.hid mt
            obtain ⟨h0, h1⟩ := HC.out k (by omega) hkb
            obtain ⟨a, rfl⟩ : ∃ a : Nat, at_ = a := ⟨at_.toNat, by omega⟩
            go_upto_region 12 with (first | rw [MT.out])
            obtain ⟨n, hna⟩ : ∃ n : Nat, a + k = n := ⟨_, rfl⟩
            have en : (a : Int) + (k : Int) = (n : Int) := by omega
            have FL : Hid (fl l (a : Int).toNat m (k + 1) = flip (fl l (a : Int).toNat m k) n) := Lib.hid (by rw [fl, hkb, ← hna]; rfl)
            have LS : Hid (Small (fl l (a : Int).toNat m k)) := Lib.hid (fl_small HSM.out _ m k)
            have LL : Hid ((fl l (a : Int).toNat m k).length = l.length) := Lib.hid (fl_length l _ m k)
            rw [en]
            have hn8 : n < 8 * l.length := by omega
            clear hkb hna en h0 h1 mt
            generalize fl l (a : Int).toNat m k = L at *
            have TP := Lib.hid (turn_plain LS.out n)
            have BI := Lib.hid (bit_any L LS.out n (by rw [LL.out]; exact hn8) (by rw [LL.out]; omega) A1 c1 wr (by have := Fg.Src.of_own HO.out; rw [LL.out]; exact this))
            rw [LL.out] at BI
            go_wp2_with fail
            refine BI.out.mono ?_
            rintro e w2 ⟨rfl, rfl⟩
            have hn9 : n / 8 < l.length := by omega
            obtain ⟨q, rfl, hbr⟩ := BRow.of_own (l := L) (w0 := w) (by have h := HO.out; rw [← LL.out] at h; exact h) (by rw [LL.out]; omega) HBW.out
            have HBR := Lib.hid hbr
            have cc : w2.cell? ⟨q, n / 8, none⟩ = some (.int .u8 (L.getD (n / 8) 0)) := hbr.cell (by rw [LL.out]; exact hn9)
            have ff : w2.frozen? ⟨q, n / 8, none⟩ = false := by obtain ⟨cur, h1, -⟩ := hbr; exact free_of_block h1 _
            clear hbr
            cases hbit : bitOf (L.getD (n / 8) 0) (n % 8)
            · have E1 := Lib.hid (TP.out.2 hbit)
              clear hbit
              have xb := getD_small LS.out (n / 8)
              have FX : Hid (flip L n = L.set (n / 8) (((L.getD (n / 8) 0).toNat ^^^ 2 ^ (7 - n % 8) : Nat) : Int)) := Lib.hid rfl
              generalize L.getD (n / 8) 0 = x at *
              have XL : x.toNat ^^^ 2 ^ (7 - n % 8) < 2 ^ 8 := Nat.xor_lt_two_pow (by omega) (Nat.pow_lt_pow_right (by decide) (by omega))
              have V8 : Hid ((x + 128 / 2 ^ (n % 8)) % 256 = ((x.toNat ^^^ 2 ^ (7 - n % 8) : Nat) : Int)) := Lib.hid (by rw [E1.out]; generalize x.toNat ^^^ 2 ^ (7 - n % 8) = y at *; omega)
              have S8 := Lib.hid (HBR.out.set (w' := w2.setCell ⟨q, n / 8, none⟩ (.int .u8 ((x.toNat ^^^ 2 ^ (7 - n % 8) : Nat) : Int))) (by rw [LL.out]; exact hn9) ((x.toNat ^^^ 2 ^ (7 - n % 8) : Nat) : Int) ((Keep.refl _ _).setCell _ _ (fun _ => rfl)) (fun cur' hc' => hset_at _ _ _ _ hc'))
              clear xb XL
              go_wp2_with fail
              rw [V8.out]
              go_roundg (gk - 1)
              case measure => omega
              case rel =>
                refine ⟨k + 1, by omega, by go_num, ?_, ?_⟩
                · have h := S8.out.own
                  rw [FL.out, FX.out]
                  rw [List.length_set, LL.out] at h
                  exact h
                · obtain ⟨cur, _, _, _, _, _, h6, _⟩ := S8.out
                  exact h6
            · have E1 := Lib.hid (TP.out.1 hbit)
              clear hbit
              have xb := getD_small LS.out (n / 8)
              have FX : Hid (flip L n = L.set (n / 8) (((L.getD (n / 8) 0).toNat ^^^ 2 ^ (7 - n % 8) : Nat) : Int)) := Lib.hid rfl
              generalize L.getD (n / 8) 0 = x at *
              have XL : x.toNat ^^^ 2 ^ (7 - n % 8) < 2 ^ 8 := Nat.xor_lt_two_pow (by omega) (Nat.pow_lt_pow_right (by decide) (by omega))
              have V8 : Hid ((x - 128 / 2 ^ (n % 8)) % 256 = ((x.toNat ^^^ 2 ^ (7 - n % 8) : Nat) : Int)) := Lib.hid (by rw [E1.out]; generalize x.toNat ^^^ 2 ^ (7 - n % 8) = y at *; omega)
              have S8 := Lib.hid (HBR.out.set (w' := w2.setCell ⟨q, n / 8, none⟩ (.int .u8 ((x.toNat ^^^ 2 ^ (7 - n % 8) : Nat) : Int))) (by rw [LL.out]; exact hn9) ((x.toNat ^^^ 2 ^ (7 - n % 8) : Nat) : Int) ((Keep.refl _ _).setCell _ _ (fun _ => rfl)) (fun cur' hc' => hset_at _ _ _ _ hc'))
              clear xb XL
              go_wp2_with fail
              rw [V8.out]
              go_roundg (gk - 1)
              case measure => omega
              case rel =>
                refine ⟨k + 1, by omega, by go_num, ?_, ?_⟩
                · have h := S8.out.own
                  rw [FL.out, FX.out]
                  rw [List.length_set, LL.out] at h
                  exact h
                · obtain ⟨cur, _, _, _, _, _, h6, _⟩ := S8.out
                  exact h6
        · obtain rfl : k = 32 := by omega
          go_wp2_with fail
          go_ret
          exact ⟨A1, c1, rfl, by rw [BU.out]; exact HO.out, HBW.out⟩
end Go.Proofs.YtgpfjeoomaadoaaDoor.Crc
