/- The plain law of packets that were read and are made again. No program in sight. -/
import Derived.Test.YtjembpchgemhnaaFgHeadPure2
set_option linter.unusedVariables false
set_option linter.unusedSimpArgs false
namespace Go.Proofs.Ytjembpchgemhnaa.Head

theorem list20 {l : List Int} (h : 20 ≤ l.length) : ∃ a0 a1 a2 a3 a4 a5 a6 a7 a8 a9 a10 a11 a12 a13 a14 a15 a16 a17 a18 a19 r, l = a0 :: a1 :: a2 :: a3 :: a4 :: a5 :: a6 :: a7 :: a8 :: a9 :: a10 :: a11 :: a12 :: a13 :: a14 :: a15 :: a16 :: a17 :: a18 :: a19 :: r := by
  have s : ∀ {l : List Int} {k : Nat}, k + 1 ≤ l.length → ∃ a r, l = a :: r ∧ k ≤ r.length := fun {l k} h => by
    cases l with
    | nil => simp at h
    | cons a r => exact ⟨a, r, rfl, by simpa using h⟩
  obtain ⟨a0, r0, rfl, h0⟩ := s (k := 19) h
  obtain ⟨a1, r1, rfl, h1⟩ := s (k := 18) h0
  obtain ⟨a2, r2, rfl, h2⟩ := s (k := 17) h1
  obtain ⟨a3, r3, rfl, h3⟩ := s (k := 16) h2
  obtain ⟨a4, r4, rfl, h4⟩ := s (k := 15) h3
  obtain ⟨a5, r5, rfl, h5⟩ := s (k := 14) h4
  obtain ⟨a6, r6, rfl, h6⟩ := s (k := 13) h5
  obtain ⟨a7, r7, rfl, h7⟩ := s (k := 12) h6
  obtain ⟨a8, r8, rfl, h8⟩ := s (k := 11) h7
  obtain ⟨a9, r9, rfl, h9⟩ := s (k := 10) h8
  obtain ⟨a10, r10, rfl, h10⟩ := s (k := 9) h9
  obtain ⟨a11, r11, rfl, h11⟩ := s (k := 8) h10
  obtain ⟨a12, r12, rfl, h12⟩ := s (k := 7) h11
  obtain ⟨a13, r13, rfl, h13⟩ := s (k := 6) h12
  obtain ⟨a14, r14, rfl, h14⟩ := s (k := 5) h13
  obtain ⟨a15, r15, rfl, h15⟩ := s (k := 4) h14
  obtain ⟨a16, r16, rfl, h16⟩ := s (k := 3) h15
  obtain ⟨a17, r17, rfl, h17⟩ := s (k := 2) h16
  obtain ⟨a18, r18, rfl, h18⟩ := s (k := 1) h17
  obtain ⟨a19, r19, rfl, h19⟩ := s (k := 0) h18
  exact ⟨a0, a1, a2, a3, a4, a5, a6, a7, a8, a9, a10, a11, a12, a13, a14, a15, a16, a17, a18, a19, r19, rfl⟩

theorem fault_parts {l : List Int} (h : fault l = 0) : 20 ≤ l.length ∧ at0 l 0 / 16 = 4 ∧ 20 ≤ hlen l ∧ hlen l ≤ l.length ∧ at0 l 2 * 256 + at0 l 3 = l.length ∧ l.length ≤ 1500 ∧ sumH (l.take (hlen l)) = 0 := by
  unfold fault at h
  split at h
  · cases h
  · split at h
    · cases h
    · split at h
      · cases h
      · split at h
        · cases h
        · rename_i h1 h2 h3 h4
          have := Classical.not_not.1 h4
          refine ⟨by omega, by omega, by omega, by omega, by omega, by omega, this⟩

/-- A header that was read stands before its payload. -/
theorem read_eq {b : List Int} (hb : Small b) (hf : fault b = 0) : b = hdr (headOf b) b.length (at0 b 10 * 256 + at0 b 11) ++ b.drop (hlen b) ∧ (headOf b).opts.length = hlen b - 20 := by
  obtain ⟨f1, f2, f3, f4, f5, f6, f7⟩ := fault_parts hf
  have hx := fun j => at0_bd hb j
  obtain ⟨a0, a1, a2, a3, a4, a5, a6, a7, a8, a9, a10, a11, a12, a13, a14, a15, a16, a17, a18, a19, r, rfl⟩ := list20 f1
  have x0 := hx 0; have x2 := hx 2; have x3 := hx 3; have x4 := hx 4; have x5 := hx 5; have x6 := hx 6; have x7 := hx 7; have x10 := hx 10; have x11 := hx 11
  simp only [at0_cons_zero, at0_cons_succ] at x0 x2 x3 x4 x5 x6 x7 x10 x11 f2 f5
  have hz : hlen (a0 :: a1 :: a2 :: a3 :: a4 :: a5 :: a6 :: a7 :: a8 :: a9 :: a10 :: a11 :: a12 :: a13 :: a14 :: a15 :: a16 :: a17 :: a18 :: a19 :: r) = (a0 % 16 * 4).toNat := rfl
  have hzl : ∃ k, (a0 % 16 * 4).toNat = k + 20 := ⟨(a0 % 16 * 4).toNat - 20, by omega⟩
  obtain ⟨k, hk⟩ := hzl
  rw [hz, hk] at f3 f4 f7 ⊢
  simp only [List.length_cons] at f4 f5 f6
  have hh : headOf (a0 :: a1 :: a2 :: a3 :: a4 :: a5 :: a6 :: a7 :: a8 :: a9 :: a10 :: a11 :: a12 :: a13 :: a14 :: a15 :: a16 :: a17 :: a18 :: a19 :: r) = ⟨a1, a4 * 256 + a5, a6 * 256 + a7, a8, a9, a12, a13, a14, a15, a16, a17, a18, a19, r.take k⟩ := by
    unfold headOf
    rw [hz, hk]
    rfl
  rw [hh]
  have hkl : (r.take k).length = k := by rw [List.length_take]; omega
  refine ⟨?_, by simpa using hkl⟩
  simp only [hdr, hkl, at0_cons_zero, at0_cons_succ, List.length_cons, List.cons_append, List.nil_append]
  have e0 : 64 + (20 + (k : Int)) / 4 = a0 := by omega
  have e2 : ((r.length + 1 + 1 + 1 + 1 + 1 + 1 + 1 + 1 + 1 + 1 + 1 + 1 + 1 + 1 + 1 + 1 + 1 + 1 + 1 + 1 : Nat) : Int) / 256 = a2 := by omega
  have e3 : ((r.length + 1 + 1 + 1 + 1 + 1 + 1 + 1 + 1 + 1 + 1 + 1 + 1 + 1 + 1 + 1 + 1 + 1 + 1 + 1 + 1 : Nat) : Int) % 256 = a3 := by omega
  have e4 : (a4 * 256 + a5) / 256 = a4 := by omega
  have e5 : (a4 * 256 + a5) % 256 = a5 := by omega
  have e6 : (a6 * 256 + a7) / 256 = a6 := by omega
  have e7 : (a6 * 256 + a7) % 256 = a7 := by omega
  have e10 : (a10 * 256 + a11) / 256 = a10 := by omega
  have e11 : (a10 * 256 + a11) % 256 = a11 := by omega
  rw [e0, e2, e3, e4, e5, e6, e7, e10, e11]
  have ed : (a0 :: a1 :: a2 :: a3 :: a4 :: a5 :: a6 :: a7 :: a8 :: a9 :: a10 :: a11 :: a12 :: a13 :: a14 :: a15 :: a16 :: a17 :: a18 :: a19 :: r).drop (k + 20) = r.drop k := by
    simp only [show k + 20 = k + 1 + 1 + 1 + 1 + 1 + 1 + 1 + 1 + 1 + 1 + 1 + 1 + 1 + 1 + 1 + 1 + 1 + 1 + 1 + 1 by omega, List.drop_succ_cons]
  rw [ed, List.take_append_drop]

theorem at0_append_left {l m : List Int} {n : Nat} (h : n < l.length) : at0 (l ++ m) n = at0 l n := by
  simp only [at0, List.getD_eq_getElem?_getD]
  rw [List.getElem?_append_left h]
theorem at0_append_right {l m : List Int} {n : Nat} (h : l.length ≤ n) : at0 (l ++ m) n = at0 m (n - l.length) := by
  simp only [at0, List.getD_eq_getElem?_getD]
  rw [List.getElem?_append_right h]
theorem low_length (h : Hd) (all s : Int) : (low h all s).length = 20 := rfl
theorem low_at (h : Hd) (all s t : Int) {n : Nat} (h1 : n ≠ 10) (h2 : n ≠ 11) : at0 (low h all s) n = at0 (low h all t) n := by
  by_cases hn : n < 20
  · rcases (show n = 0 ∨ n = 1 ∨ n = 2 ∨ n = 3 ∨ n = 4 ∨ n = 5 ∨ n = 6 ∨ n = 7 ∨ n = 8 ∨ n = 9 ∨ n = 12 ∨ n = 13 ∨ n = 14 ∨ n = 15 ∨ n = 16 ∨ n = 17 ∨ n = 18 ∨ n = 19 by omega) with h | h | h | h | h | h | h | h | h | h | h | h | h | h | h | h | h | h <;> (subst h; rfl)
  · simp only [at0, List.getD_eq_getElem?_getD]
    rw [List.getElem?_eq_none (by rw [low_length]; omega), List.getElem?_eq_none (by rw [low_length]; omega)]

theorem head_small {b : List Int} (hb : Small b) : (headOf b).small := by
  refine ⟨(hb.drop 20).take _, fun x hx => ?_⟩
  have h12 := at0_bd hb 12; have h13 := at0_bd hb 13; have h14 := at0_bd hb 14; have h15 := at0_bd hb 15
  have h16 := at0_bd hb 16; have h17 := at0_bd hb 17; have h18 := at0_bd hb 18; have h19 := at0_bd hb 19
  simp only [headOf, List.mem_cons, List.not_mem_nil, or_false] at hx
  omega
theorem head_right {b : List Int} (hb : Small b) (hf : fault b = 0) : makes (headOf b) (b.drop (hlen b)) = true := by
  obtain ⟨f1, f2, f3, f4, f5, f6, f7⟩ := fault_parts hf
  obtain ⟨e1, e2⟩ := read_eq hb hf
  have h1 := at0_bd hb 1; have h4 := at0_bd hb 4; have h5 := at0_bd hb 5; have h6 := at0_bd hb 6; have h7 := at0_bd hb 7; have h8 := at0_bd hb 8; have h9 := at0_bd hb 9; have h0 := at0_bd hb 0
  have hz : hlen b = (at0 b 0 % 16 * 4).toNat := rfl
  have hp : (b.drop (hlen b)).length = b.length - hlen b := List.length_drop
  have hr : rightB (headOf b) = true := by
    simp only [rightB, Bool.and_eq_true, e2]
    refine ⟨⟨⟨?_, ?_⟩, ?_⟩, ?_⟩
    · simp [headOf, bad]; omega
    · simp [headOf, bad]; omega
    · simp; omega
    · simp; omega
  rw [makes, hr, e2, hp]
  simp
  omega
/-- What was read and is made again. -/
theorem back {b : List Int} (hb : Small b) (hf : fault b = 0) : (packet (headOf b) (b.drop (hlen b))).length = b.length ∧
    (∀ n, n ≠ 10 → n ≠ 11 → at0 (packet (headOf b) (b.drop (hlen b))) n = at0 b n) ∧
    ((at0 (packet (headOf b) (b.drop (hlen b))) 10 = at0 b 10 ∧ at0 (packet (headOf b) (b.drop (hlen b))) 11 = at0 b 11) ∨
      (at0 b 10 = 255 ∧ at0 b 11 = 255 ∧ at0 (packet (headOf b) (b.drop (hlen b))) 10 = 0 ∧ at0 (packet (headOf b) (b.drop (hlen b))) 11 = 0)) := by
  obtain ⟨f1, f2, f3, f4, f5, f6, f7⟩ := fault_parts hf
  obtain ⟨e1, e2⟩ := read_eq hb hf
  have hm := head_right hb hf
  obtain ⟨hr, hl⟩ := makes_bd hm
  have hp : (b.drop (hlen b)).length = b.length - hlen b := List.length_drop
  have hall : (20 + ((headOf b).opts.length : Int) + ((b.drop (hlen b)).length : Int)) = (b.length : Int) := by rw [e2, hp]; omega
  have hpk : packet (headOf b) (b.drop (hlen b)) = hdr (headOf b) b.length (sumH (hdr (headOf b) b.length 0)) ++ b.drop (hlen b) := by
    rw [packet, hall]
  have h10 := at0_bd hb 10
  have h11 := at0_bd hb 11
  have hsm := hdr_small' (head_small hb) hr b.length 0 (by omega) (by omega)
  have htk : b.take (hlen b) = hdr (headOf b) b.length (at0 b 10 * 256 + at0 b 11) := by
    have hl2 : (hdr (headOf b) b.length (at0 b 10 * 256 + at0 b 11)).length = hlen b := by rw [hdr_length', e2]; omega
    have h3 := congrArg (List.take (hlen b)) e1
    rw [h3, List.take_append_of_le_length (by rw [hl2]; exact Nat.le_refl _), List.take_of_length_le (by rw [hl2]; exact Nat.le_refl _)]
  rw [htk, sumH, hdr_tot] at f7
  have hpos := tot_pos b.length hsm
  have hsb := sumH_bd (hdr (headOf b) b.length 0)
  have hsd : sumH (hdr (headOf b) b.length 0) = 65535 - fin (tot (hdr (headOf b) b.length 0)) := rfl
  generalize headOf b = h at *
  generalize b.drop (hlen b) = p at *
  generalize sumH (hdr h b.length 0) = s at *
  generalize hT : tot (hdr h b.length 0) = T at *
  have a10 : at0 (packet h p) 10 = s / 256 := by rw [hpk]; rfl
  have a11 : at0 (packet h p) 11 = s % 256 := by rw [hpk]; rfl
  refine ⟨by rw [packet_length]; omega, fun n h1 h2 => ?_, ?_⟩
  · rw [hpk]
    have e1' := congrArg (fun l => at0 l n) e1
    refine Eq.trans ?_ e1'.symm
    show at0 (hdr h b.length s ++ p) n = at0 (hdr h b.length (at0 b 10 * 256 + at0 b 11) ++ p) n
    rw [hdr_low, hdr_low, List.append_assoc, List.append_assoc]
    by_cases hn : n < 20
    · rw [at0_append_left (by rw [low_length]; exact hn), at0_append_left (by rw [low_length]; exact hn)]
      exact low_at _ _ _ _ h1 h2
    · exact Eq.trans (at0_append_right (l := low h b.length s) (by rw [low_length]; omega)) (at0_append_right (l := low h b.length (at0 b 10 * 256 + at0 b 11)) (by rw [low_length]; omega)).symm
  · rw [a10, a11]
    generalize at0 b 10 = x at *
    generalize at0 b 11 = y at *
    unfold fin at f7 hsd
    rw [if_neg (by omega)] at f7 hsd
    have m1 : (T + (x * 256 + y)) % 65535 = 0 := by omega
    have m2 : (T + s) % 65535 = 0 := by omega
    clear e1 htk hpk
    by_cases hs : x * 256 + y = s
    · left; omega
    · right
      have : x * 256 + y = s + 65535 ∨ s = x * 256 + y + 65535 := by omega
      omega
end Go.Proofs.Ytjembpchgemhnaa.Head
