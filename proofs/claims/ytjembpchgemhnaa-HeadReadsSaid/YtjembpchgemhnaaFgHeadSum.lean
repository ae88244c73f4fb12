/- Contracts of head's Sum and of the document's. Conditions: none beyond each lemma's own hypotheses. -/
import Derived.Test.YtjembpchgemhnaaFgHeadPure
import Derived.Test.YtjembpchgemhnaaFgBytes
import Derived.Test.YtjembpchgemhnaaFgBits
import Derived.Deep.LoopGhost
set_option linter.unusedVariables false
set_option linter.unusedSimpArgs false
namespace Go.Proofs.Ytjembpchgemhnaa.Head
open Go.RowKit Go.Proofs.Ytjembpchgemhnaa.Fg

/-- The bytes of a slice that is read. -/
theorem src_at {w : World} {A : Option Addr} {c : Nat} {l : List Int} (h : Src w A l.length c (bv l)) {j : Nat} (hj : j < l.length) : ∃ ad, A = some ad ∧ w.cell? (ad.add j) = some (.int .u8 l[j]) := by
  cases A with
  | none => have := (h.nil rfl).1; omega
  | some ad => exact ⟨ad, rfl, h.cells ad rfl j _ (by simp [bv, hj])⟩

set_option maxRecDepth 100000 in
theorem sum_any (l : List Int) (hb : Small l) (hn : l.length ≤ 100000) (A : Option Addr) (c : Nat) (w : World) (hs : Src w A l.length c (bv l)) :
    Calls Try.prog 14 #[.slice A l.length c] w fun e w' => e = .returned (.int .u16 (sumH l)) ∧ w' = w := by
  have HS := Lib.hid hs
  have HB := Lib.hid hb
  clear hs hb
  go_enter Try.func14, Try.ntmps14
  go_wp2_with fail
  go_loopg [3, 8] l.length (fun k s i wr => ∃ j : Nat, j + k = l.length ∧ i = .int .i64 j ∧ s = .int .u64 (tot (l.take j)) ∧ wr = w)
  case atStart => exact ⟨0, Nat.zero_add _, rfl, rfl, rfl⟩
  case round =>
    obtain ⟨j, hj, rfl, rfl, rfl⟩ := hrel
    by_cases hlt : j < l.length
    · obtain ⟨ad, rfl, hc⟩ := src_at HS.out hlt
      have hx := HB.out _ (List.getElem_mem hlt)
      have HF := Lib.hid (tot_take_succ l j hlt)
      have hT := tot_bd (l.take j) (HB.out.take j)
      have hl : (l.take j).length ≤ j := List.length_take_le _ _
      generalize tot (l.take j) = t at *
      generalize l[j] = x at *
      rcases Nat.mod_two_eq_zero_or_one j with hp | hp
      · rw [if_pos hp] at HF
        go_wp2_with fail
        go_roundg (gk - 1)
        case measure => omega
        case rel => exact ⟨j + 1, by omega, by go_num, by rw [HF.out, Int.mul_comm 256 x], rfl⟩
      · rw [if_neg (by omega)] at HF
        go_wp2_with fail
        go_roundg (gk - 1)
        case measure => omega
        case rel => exact ⟨j + 1, by omega, by go_num, by rw [HF.out], rfl⟩
    · have hjl : j = l.length := by omega
      subst hjl
      rw [List.take_length]
      have hT := tot_bd l HB.out
      have HR : Hid (sumH l = 65535 - fin (tot l)) := Lib.hid rfl
      generalize tot l = t at *
      clear HS
      go_wp2_with fail
      go_loop [3] (fun s => ∃ x : Int, 0 ≤ x ∧ x ≤ t ∧ fin x = fin t ∧ s = .int .u64 x) (fun s => (intOf s).toNat)
      case atStart => exact ⟨t, hT.1, Int.le_refl _, rfl, rfl⟩
      case round =>
        obtain ⟨x, h0, h1, hf, rfl⟩ := hrel
        have HF := Lib.hid hf
        clear hf
        by_cases hx : 65535 < x
        · have ha : bits .and .u64 x 65535 = x % 65536 := and_u64_16 x h0 (by omega)
          have hb : IntKind.u64.wrap (x / 65536 + x % 65536) = x / 65536 + x % 65536 := by rw [IntKind.wrap_u64]; omega
          have HN : Hid (fin (x / 65536 + x % 65536) = fin t) := Lib.hid ((fin_round x hx).trans HF.out)
          go_wp2_with fail
          exact ⟨⟨_, by omega, by omega, HN.out, rfl⟩, by simp only [intOf]; omega⟩
        · have ha : bits .xor .u16 IntKind.u16.max x = 65535 - x := not_u16 x h0 (by omega)
          have HN : Hid (sumH l = 65535 - x) := Lib.hid (by rw [HR.out, ← HF.out, fin_same x h0 (by omega)])
          go_wp2_with fail
          go_ret
          exact ⟨by rw [HN.out]; rfl, rfl⟩

theorem take_two (l : List Int) (j : Nat) (h : j % 2 = 0) (hlt : j + 1 < l.length) : tot (l.take (j + 2)) = tot (l.take j) + (256 * l[j] + l[j + 1]) := by
  rw [tot_take_succ l (j + 1) hlt, tot_take_succ l j (by omega), if_pos h, if_neg (by omega)]
  omega

set_option maxRecDepth 100000 in
theorem refsum_any (l : List Int) (hb : Small l) (hn : l.length ≤ 100000) (A : Option Addr) (c : Nat) (w : World) (hs : Src w A l.length c (bv l)) :
    Calls Try.prog 15 #[.slice A l.length c] w fun e w' => e = .returned (.int .i64 (sumH l)) ∧ w' = w := by
  have HS := Lib.hid hs
  have HB := Lib.hid hb
  clear hs hb
  go_enter Try.func15, Try.ntmps15
  go_wp2_with fail
  go_loop [3, 4] (fun s i => ∃ j : Nat, j % 2 = 0 ∧ j ≤ l.length + 1 ∧ i = .int .i64 j ∧ s = .int .i64 (fin (tot (l.take j)))) (fun _ i => l.length + 2 - (intOf i).toNat)
  case atStart => exact ⟨0, rfl, by omega, rfl, rfl⟩
  case round =>
    obtain ⟨j, hp, hj, rfl, rfl⟩ := hrel
    have hf := fin_bd (tot (l.take j))
    have h0 := (tot_bd (l.take j) (HB.out.take j)).1
    by_cases hlt : j + 1 < l.length
    · obtain ⟨ad, rfl, hc⟩ := src_at HS.out (by omega : j < l.length)
      obtain ⟨ad', e, hc'⟩ := src_at HS.out hlt
      injection e with e
      subst e
      have hx := HB.out _ (List.getElem_mem (by omega : j < l.length))
      have hy := HB.out _ (List.getElem_mem hlt)
      have HF : Hid (fin (tot (l.take (j + 2))) = fin (fin (tot (l.take j)) + (256 * l[j] + l[j + 1]))) := Lib.hid (by rw [take_two l j hp hlt, fin_minus _ _ h0 (by omega) (by omega)])
      generalize tot (l.take j) = t at *
      generalize fin t = f at *
      generalize l[j] = x at *
      generalize l[j + 1] = y at *
      have hj1 : j < l.length := by omega
      have hc2 : w.cell? ⟨ad.block, ad.off + (j + 1), none⟩ = some (.int .u8 y) := by rw [← hc']; simp [Addr.add]
      by_cases hg : 65535 < f + 256 * x + y
      · have HG : Hid (fin (f + (256 * x + y)) = f + 256 * x + y - 65535) := Lib.hid (by unfold fin; rw [if_neg (by omega)]; omega)
        go_wp2_with fail
        exact ⟨⟨j + 2, by omega, by omega, by go_num, by rw [HF.out, HG.out]⟩, by simp only [intOf]; omega⟩
      · have HG : Hid (fin (f + (256 * x + y)) = f + 256 * x + y) := Lib.hid (by rw [fin_same _ (by omega) (by omega)]; omega)
        go_wp2_with fail
        exact ⟨⟨j + 2, by omega, by omega, by go_num, by rw [HF.out, HG.out]⟩, by simp only [intOf]; omega⟩
    · by_cases hlt1 : j < l.length
      · obtain ⟨ad, rfl, hc⟩ := src_at HS.out hlt1
        have hx := HB.out _ (List.getElem_mem hlt1)
        have HF : Hid (fin (tot (l.take (j + 2))) = fin (fin (tot (l.take j)) + 256 * l[j])) := Lib.hid (by
          rw [show l.take (j + 2) = l.take (j + 1) by rw [List.take_of_length_le (by omega), List.take_of_length_le (by omega)], tot_take_succ l j hlt1, if_pos hp, fin_minus _ _ h0 (by omega) (by omega)])
        generalize tot (l.take j) = t at *
        generalize fin t = f at *
        generalize l[j] = x at *
        by_cases hg : 65535 < f + 256 * x
        · have HG : Hid (fin (f + 256 * x) = f + 256 * x - 65535) := Lib.hid (by unfold fin; rw [if_neg (by omega)]; omega)
          go_wp2_with fail
          exact ⟨⟨j + 2, by omega, by omega, by go_num, by rw [HF.out, HG.out]⟩, by simp only [intOf]; omega⟩
        · have HG : Hid (fin (f + 256 * x) = f + 256 * x) := Lib.hid (by rw [fin_same _ (by omega) (by omega)])
          go_wp2_with fail
          exact ⟨⟨j + 2, by omega, by omega, by go_num, by rw [HF.out, HG.out]⟩, by simp only [intOf]; omega⟩
      · rw [List.take_of_length_le (by omega)]
        rw [List.take_of_length_le (by omega)] at hf
        have HR : Hid (sumH l = 65535 - fin (tot l)) := Lib.hid rfl
        generalize fin (tot l) = f at *
        clear h0
        go_wp2_with fail
        go_ret
        exact ⟨by rw [HR.out]; rfl, rfl⟩

set_option maxRecDepth 100000 in
theorem get_any (l : List Int) (hb : Small l) (hn : l.length ≤ 100000) (j : Nat) (hj : j + 1 < l.length) (A : Option Addr) (c : Nat) (w : World) (hs : Src w A l.length c (bv l)) :
    Calls Try.prog 22 #[.slice A l.length c, .int .i64 j] w fun e w' => e = .returned (.int .i64 (l[j] * 256 + l[j + 1])) ∧ ∃ q, w' = w.drewN q := by
  obtain ⟨ad, rfl, hc⟩ := src_at hs (by omega : j < l.length)
  obtain ⟨ad', e, hc'⟩ := src_at hs hj
  injection e with e
  subst e
  have hx := hb _ (List.getElem_mem (by omega : j < l.length))
  have hy := hb _ (List.getElem_mem hj)
  clear hb hs
  generalize l[j] = x at *
  generalize l[j + 1] = y at *
  have hc2 : w.cell? ⟨ad.block, ad.off + (j + 1), none⟩ = some (.int .u8 y) := by rw [← hc']; simp [Addr.add]
  have ho := or_i64_8 x y hx.1 (by omega) hy.1 hy.2
  have hj1 : j < l.length := by omega
  have k0 : (0 : Int) ≤ (j : Int) := by omega
  have k1 : (j : Int) < (l.length : Int) := by omega
  have k2 : (j : Int) + 1 < (l.length : Int) := by omega
  have k3 : (0 : Int) ≤ (j : Int) + 1 := by omega
  have k4 : ((j : Int) + 1).toNat = j + 1 := by omega
  go_enter Try.func22, Try.ntmps22
  go_wp2_with fail
  go_quiet (fail)
  go_wp2_with fail
  go_ret
  exact ⟨rfl, _, rfl⟩

set_option maxRecDepth 100000 in
theorem set_any (g n c j : Nat) (x : Int) (w : World) (hj : j + 1 < n) (hn : n ≤ 100000) (h0 : 0 ≤ x) (h1 : x ≤ 65535) (u v : Value)
    (hu : w.cell? ⟨g, j, none⟩ = some u) (hv : w.cell? ⟨g, j + 1, none⟩ = some v) (fu : w.frozen? ⟨g, j, none⟩ = false) (fv : w.frozen? ⟨g, j + 1, none⟩ = false) :
    Calls Try.prog 25 #[.slice (some ⟨g, 0, none⟩) n c, .int .i64 j, .int .i64 x] w fun e w' => e = .returned (.tuple #[]) ∧ w' = (w.setCell ⟨g, j, none⟩ (.int .u8 (x / 256))).setCell ⟨g, j + 1, none⟩ (.int .u8 (x % 256)) := by
  have hj1 : j < n := by omega
  have hd : x / 256 ≤ 255 := by omega
  go_enter Try.func25, Try.ntmps25
  go_wp2_with fail
  go_end0
  exact ⟨rfl, rfl⟩
end Go.Proofs.Ytjembpchgemhnaa.Head
