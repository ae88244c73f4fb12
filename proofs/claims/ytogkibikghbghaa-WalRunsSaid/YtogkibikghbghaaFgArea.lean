/- Contracts of the area layer's calls: where things are on a disk. Conditions: none beyond each lemma's own hypotheses. -/
import Derived.Test.YtogkibikghbghaaFgBase
namespace Go.Proofs.Ytogkibikghbghaa.Area
open Go.RowKit Go.Proofs.Ytogkibikghbghaa.Fg

/-- How many segments; 0 where there are none. -/
def segsN (s : Int) : Int := if 64 ≤ s ∧ s ≤ 512 then (s - 32) / 16 else 0
def segsE (s : Int) : Int := if 64 ≤ s ∧ s ≤ 512 then 0 else 91
/-- Is there such a segment? -/
def okB (s k : Int) : Bool := decide (0 ≤ k) && decide (k < segsN s)
def thereE (s : Int) (l : List Int) : Int := if l.all (okB s) = true then segsE s else 91
def segV (s k : Int) : Int := if okB s k = true then 32 + k * 16 else 0
def segE (s k : Int) : Int := if okB s k = true then 0 else 91
theorem segsN_le (s : Int) : 0 ≤ segsN s ∧ segsN s ≤ 30 := by unfold segsN; split <;> omega
theorem okB_in {s k : Int} (h : okB s k = true) : 64 ≤ s ∧ s ≤ 512 ∧ 0 ≤ k ∧ k < (s - 32) / 16 ∧ segsN s = (s - 32) / 16 := by
  unfold okB segsN at h
  unfold segsN
  simp only [Bool.and_eq_true, decide_eq_true_eq] at h
  by_cases hs : 64 ≤ s ∧ s ≤ 512
  · rw [if_pos hs] at h ⊢; omega
  · rw [if_neg hs] at h; omega
theorem thereE_one (s k : Int) : thereE s [k] = segE s k := by
  unfold thereE segE
  by_cases h : okB s k = true
  · have := okB_in h
    simp [h, segsE, this]
  · simp [h]
theorem thereE_two (s j k : Int) : thereE s [j, k] = if okB s j = true ∧ okB s k = true then 0 else 91 := by
  unfold thereE
  by_cases h : okB s j = true ∧ okB s k = true
  · have := okB_in h.1
    simp [h, segsE, this]
  · by_cases h1 : okB s j = true
    · have h2 : ¬ okB s k = true := fun x => h ⟨h1, x⟩
      simp [h1, h2]
    · simp [h1]
theorem thereE_snoc (s : Int) (l : List Int) (k : Int) : thereE s (l ++ [k]) = if okB s k = true then thereE s l else 91 := by
  unfold thereE
  by_cases h : okB s k = true <;> simp [h, List.all_append]

theorem segs_any (s : Int) (w : World) : Calls Try.prog 43 #[.int .i64 s] w fun e w' => e = .returned (.tuple #[.int .i64 (segsN s), .int .i64 (segsE s)]) ∧ w = w' := by
  by_cases h : 64 ≤ s ∧ s ≤ 512
  · obtain ⟨h1, h2⟩ := h
    have e1 : segsN s = (s - 32) / 16 := by unfold segsN; rw [if_pos ⟨h1, h2⟩]
    have e2 : segsE s = 0 := by unfold segsE; rw [if_pos ⟨h1, h2⟩]
    rw [e1, e2]
    clear e1 e2
    go_enter Try.func43, Try.ntmps43
    go_wp2
    go_ret2
    exact ⟨rfl, rfl⟩
  · have e1 : segsN s = 0 := by unfold segsN; rw [if_neg h]
    have e2 : segsE s = 91 := by unfold segsE; rw [if_neg h]
    rw [e1, e2]
    clear e1 e2
    by_cases h1 : s < 64
    · go_enter Try.func43, Try.ntmps43
      go_wp2
      go_ret2
      exact ⟨rfl, rfl⟩
    · have h2 : 512 < s := by omega
      clear h
      go_enter Try.func43, Try.ntmps43
      go_wp2
      go_ret2
      exact ⟨rfl, rfl⟩

theorem there_any (s : Int) (b off c : Nat) (l : List Int) (w : World) (hl : l.length ≤ 2) (hc : ∀ i, i < l.length → w.cell? ⟨b, off + i, none⟩ = some (.int .i64 (l.getD i 0))) :
    Calls Try.prog 56 #[.int .i64 s, .slice (some ⟨b, off, none⟩) l.length c] w fun e w' => e = .returned (.tuple #[.int .i64 (segsN s), .int .i64 (thereE s l)]) ∧ w = w' := by
  have hn := segsN_le s
  have HC := Lib.hid hc
  clear hc
  go_enter Try.func56, Try.ntmps56
  go_wp2_with fail
  refine (segs_any s _).mono ?_
  rintro e w' ⟨rfl, rfl⟩
  go_wp2_with fail
  go_loop [7, 17] (fun e i => ∃ j : Nat, j ≤ l.length ∧ i = .int .i64 j ∧ e = .int .i64 (thereE s (l.take j))) (fun _ i => l.length - (intOf i).toNat)
  case atStart => exact ⟨0, Nat.zero_le _, rfl, by simp [thereE]⟩
  case round =>
    obtain ⟨j, hj, rfl, rfl⟩ := hrel
    by_cases hlt : j < l.length
    · have hcell := HC.out j hlt
      obtain ⟨x, hx⟩ : ∃ x, x = l.getD j 0 := ⟨_, rfl⟩
      rw [← hx] at hcell
      have hs : thereE s (l.take (j + 1)) = if okB s x = true then thereE s (l.take j) else 91 := by
        rw [← thereE_snoc, hx]
        congr 1
        rw [List.take_succ_eq_append_getElem hlt, List.getD_eq_getElem?_getD, List.getElem?_eq_getElem hlt]; rfl
      have HS := Lib.hid hs
      have HX := Lib.hid hx
      clear hs hx
      by_cases h1 : x < 0
      · have h2 : okB s x = false := by unfold okB; rw [decide_eq_false (by omega)]; rfl
        have H2 := Lib.hid h2
        clear h2
        go_wp2_with fail
        go_round
        case rel => exact ⟨j + 1, by omega, by go_num, by rw [HS.out, H2.out]; rfl⟩
        case measure => simp [intOf]; omega
      · by_cases h3 : segsN s ≤ x
        · have h2 : okB s x = false := by unfold okB; rw [decide_eq_true (by omega), decide_eq_false (by omega)]; rfl
          have H2 := Lib.hid h2
          clear h2
          go_wp2_with fail
          go_round
          case rel => exact ⟨j + 1, by omega, by go_num, by rw [HS.out, H2.out]; rfl⟩
          case measure => simp [intOf]; omega
        · have h2 : okB s x = true := by unfold okB; rw [decide_eq_true (by omega), decide_eq_true (by omega)]; rfl
          have H2 := Lib.hid h2
          clear h2
          go_wp2_with fail
          go_round
          case rel => exact ⟨j + 1, by omega, by go_num, by rw [HS.out, if_pos H2.out]⟩
          case measure => simp [intOf]; omega
    · have e : l.take j = l := List.take_of_length_le (by omega)
      rw [e]
      go_wp2_with fail
      go_ret2
      exact ⟨rfl, rfl⟩

theorem there_one (s k : Int) (w : World) (b : Nat) (hb : w.cell? ⟨b, 0, none⟩ = some (.int .i64 k)) :
    Calls Try.prog 56 #[.int .i64 s, .slice (some ⟨b, 0, none⟩) 1 1] w fun e w' => e = .returned (.tuple #[.int .i64 (segsN s), .int .i64 (segE s k)]) ∧ w = w' := by
  have := there_any s b 0 1 [k] w (by simp) (fun i hi => by
    have : i = 0 := by simpa using hi
    subst this; simpa using hb)
  rw [thereE_one] at this
  exact this
theorem there_two (s j k : Int) (w : World) (b : Nat) (hb : w.cell? ⟨b, 0, none⟩ = some (.int .i64 j)) (hb' : w.cell? ⟨b, 1, none⟩ = some (.int .i64 k)) :
    Calls Try.prog 56 #[.int .i64 s, .slice (some ⟨b, 0, none⟩) 2 2] w fun e w' => e = .returned (.tuple #[.int .i64 (segsN s), .int .i64 (thereE s [j, k])]) ∧ w = w' :=
  there_any s b 0 2 [j, k] w (by simp) (fun i hi => by
    rcases (show i = 0 ∨ i = 1 by simp at hi; omega) with rfl | rfl
    · simpa using hb
    · simpa using hb')

theorem seg_any (s k : Int) (w : World) : Calls Try.prog 34 #[.int .i64 s, .int .i64 k] w fun e w' => e = .returned (.tuple #[.int .i64 (segV s k), .int .i64 (segE s k)]) ∧ Below w.heap.size w w' := by
  by_cases h : okB s k = true
  · obtain ⟨h1, h2, h3, h4, h5⟩ := okB_in h
    have e1 : segV s k = 32 + k * 16 := by unfold segV; rw [if_pos h]
    have e2 : segE s k = 0 := by unfold segE; rw [if_pos h]
    have T := Lib.hid (fun w b hb => there_one s k w b hb)
    rw [e1, e2]
    rw [e2] at T
    clear e1 e2 h h5
    go_enter Try.func34, Try.ntmps34
    go_wp2_with fail
    refine (T.out _ _ (by go_simp)).mono ?_
    rintro e w' ⟨rfl, rfl⟩
    go_wp2_with fail
    go_ret2
    exact ⟨rfl, (Below.refl _ _).alloc (Nat.le_refl _) _⟩
  · have e1 : segV s k = 0 := by unfold segV; rw [if_neg h]
    have e2 : segE s k = 91 := by unfold segE; rw [if_neg h]
    have T := Lib.hid (fun w b hb => there_one s k w b hb)
    rw [e1, e2]
    rw [e2] at T
    clear e1 e2 h
    go_enter Try.func34, Try.ntmps34
    go_wp2_with fail
    refine (T.out _ _ (by go_simp)).mono ?_
    rintro e w' ⟨rfl, rfl⟩
    go_wp2_with fail
    go_ret2
    exact ⟨rfl, (Below.refl _ _).alloc (Nat.le_refl _) _⟩

def nextV (s k : Int) : Int := if okB s k = true then (k + 1) % segsN s else 0
theorem next_any (s k : Int) (w : World) : Calls Try.prog 71 #[.int .i64 s, .int .i64 k] w fun e w' => e = .returned (.tuple #[.int .i64 (nextV s k), .int .i64 (segE s k)]) ∧ Below w.heap.size w w' := by
  by_cases h : okB s k = true
  · obtain ⟨h1, h2, h3, h4, h5⟩ := okB_in h
    have e1 : nextV s k = (k + 1) % segsN s := by unfold nextV; rw [if_pos h]
    have e2 : segE s k = 0 := by unfold segE; rw [if_pos h]
    have T := Lib.hid (fun w b hb => there_one s k w b hb)
    have hn := segsN_le s
    have hn' : 1 ≤ segsN s := by omega
    have hn2 : ¬ segsN s = 0 := by omega
    rw [e1, e2]
    rw [e2] at T
    clear e1 e2 h h5
    have hk : k ≤ 40 := by omega
    go_enter Try.func71, Try.ntmps71
    go_wp2_with fail
    refine (T.out _ _ (by go_simp)).mono ?_
    rintro e w' ⟨rfl, rfl⟩
    go_wp2_with fail
    go_ret2
    exact ⟨rfl, (Below.refl _ _).alloc (Nat.le_refl _) _⟩
  · have e1 : nextV s k = 0 := by unfold nextV; rw [if_neg h]
    have e2 : segE s k = 91 := by unfold segE; rw [if_neg h]
    have T := Lib.hid (fun w b hb => there_one s k w b hb)
    rw [e1, e2]
    rw [e2] at T
    clear e1 e2 h
    go_enter Try.func71, Try.ntmps71
    go_wp2_with fail
    refine (T.out _ _ (by go_simp)).mono ?_
    rintro e w' ⟨rfl, rfl⟩
    go_wp2_with fail
    go_ret2
    exact ⟨rfl, (Below.refl _ _).alloc (Nat.le_refl _) _⟩

def usedV (s j k : Int) : Int := if okB s j = true ∧ okB s k = true then (k - j) % segsN s + 1 else 0
theorem used_any (s j k : Int) (w : World) : Calls Try.prog 44 #[.int .i64 s, .int .i64 j, .int .i64 k] w fun e w' => e = .returned (.tuple #[.int .i64 (usedV s j k), .int .i64 (thereE s [j, k])]) ∧ Below w.heap.size w w' := by
  by_cases h : okB s j = true ∧ okB s k = true
  · obtain ⟨h1, h2, h3, h4, h5⟩ := okB_in h.1
    obtain ⟨-, -, g3, g4, -⟩ := okB_in h.2
    have e1 : usedV s j k = (k - j) % segsN s + 1 := by unfold usedV; rw [if_pos h]
    have e2 : thereE s [j, k] = 0 := by rw [thereE_two, if_pos h]
    have T := Lib.hid (fun w b hb hb' => there_two s j k w b hb hb')
    have hn := segsN_le s
    have hn' : 1 ≤ segsN s := by omega
    have hn2 : ¬ segsN s = 0 := by omega
    rw [e1, e2]
    rw [e2] at T
    clear e1 e2 h
    have hk : j ≤ 40 := by omega
    have hk' : k ≤ 40 := by omega
    have hs0 : 0 ≤ k - j + segsN s := by omega
    have hmod : 0 ≤ (k - j) % segsN s := Int.emod_nonneg _ hn2
    have hmod2 : (k - j) % segsN s < segsN s := Int.emod_lt_of_pos _ (by omega)
    clear h5
    go_enter Try.func44, Try.ntmps44
    go_wp2_with fail
    refine (T.out _ _ (by go_simp) (by go_simp)).mono ?_
    rintro e w' ⟨rfl, rfl⟩
    go_wp2_with fail
    go_ret2
    exact ⟨rfl, (Below.refl _ _).alloc (Nat.le_refl _) _⟩
  · have e1 : usedV s j k = 0 := by unfold usedV; rw [if_neg h]
    have e2 : thereE s [j, k] = 91 := by rw [thereE_two, if_neg h]
    have T := Lib.hid (fun w b hb hb' => there_two s j k w b hb hb')
    rw [e1, e2]
    rw [e2] at T
    clear e1 e2 h
    go_enter Try.func44, Try.ntmps44
    go_wp2_with fail
    refine (T.out _ _ (by go_simp) (by go_simp)).mono ?_
    rintro e w' ⟨rfl, rfl⟩
    go_wp2_with fail
    go_ret2
    exact ⟨rfl, (Below.refl _ _).alloc (Nat.le_refl _) _⟩
end Go.Proofs.Ytogkibikghbghaa.Area
