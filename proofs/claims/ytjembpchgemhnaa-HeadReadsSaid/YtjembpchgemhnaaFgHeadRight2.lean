/- Contracts of head's right and of the document's. Conditions: none beyond each lemma's own hypotheses. -/
import Derived.Test.YtjembpchgemhnaaFgHeadRight
set_option linter.unusedVariables false
set_option linter.unusedSimpArgs false
namespace Go.Proofs.Ytjembpchgemhnaa.Head
open Go.RowKit Go.Proofs.Ytjembpchgemhnaa.Fg

/-- A header. -/
structure Hd where
  tos : Int
  id : Int
  flags : Int
  ttl : Int
  proto : Int
  s0 : Int
  s1 : Int
  s2 : Int
  s3 : Int
  d0 : Int
  d1 : Int
  d2 : Int
  d3 : Int
  opts : List Int
/-- Its cells. -/
def hv (h : Hd) (A : Option Addr) (c : Nat) : Array Value := #[.int .i64 h.tos, .int .i64 h.id, .int .i64 h.flags, .int .i64 h.ttl, .int .i64 h.proto, .int .u8 h.s0, .int .u8 h.s1, .int .u8 h.s2, .int .u8 h.s3, .int .u8 h.d0, .int .u8 h.d1, .int .u8 h.d2, .int .u8 h.d3, .slice A h.opts.length c]
def rightB (h : Hd) : Bool := (!([h.tos, h.ttl, h.proto].any (bad 255))) && (!([h.id, h.flags].any (bad 65535))) && decide (h.opts.length ≤ 40) && decide (h.opts.length % 4 = 0)

set_option maxRecDepth 100000 in
theorem right_any (h : Hd) (A : Option Addr) (c : Nat) (w : World) (hn : h.opts.length ≤ 140737488355328) :
    Calls Try.prog 24 #[.agg (hv h A c)] w fun e w' => e = .returned (.bool (rightB h)) ∧ Below w.heap.size w w' := by
  obtain ⟨tos, id, flags, ttl, proto, s0, s1, s2, s3, d0, d1, d2, d3, opts⟩ := h
  simp only [hv] at *
  obtain ⟨b1, hb1⟩ : ∃ b, (!([tos, ttl, proto].any (bad 255))) = b := ⟨_, rfl⟩
  obtain ⟨b2, hb2⟩ : ∃ b, (!([id, flags].any (bad 65535))) = b := ⟨_, rfl⟩
  have HB1 := Lib.hid hb1
  have HB2 := Lib.hid hb2
  have HR : Hid (rightB ⟨tos, id, flags, ttl, proto, s0, s1, s2, s3, d0, d1, d2, d3, opts⟩ = (b1 && b2 && decide (opts.length ≤ 40) && decide (opts.length % 4 = 0))) := Lib.hid (by rw [← hb1, ← hb2]; rfl)
  clear hb1 hb2
  have hz : ∀ a b c : Int, ∀ g : Nat, ∀ w : World, w.heap.size = g → ∀ j (h : j < [a, b, c].length), (w.alloc (.cells #[.int .i64 a, .int .i64 b, .int .i64 c] 3)).cell? ⟨g, j, none⟩ = some (.int .i64 [a, b, c][j]) := by
    intro a b c g w hg j hj
    subst hg
    rw [cell_of_block (heap_alloc_at w _)]
    match j, hj with
    | 0, _ => rfl
    | 1, _ => rfl
    | 2, _ => rfl
  have hz2 : ∀ a b : Int, ∀ g : Nat, ∀ w : World, w.heap.size = g → ∀ j (h : j < [a, b].length), (w.alloc (.cells #[.int .i64 a, .int .i64 b] 3)).cell? ⟨g, j, none⟩ = some (.int .i64 [a, b][j]) := by
    intro a b g w hg j hj
    subst hg
    rw [cell_of_block (heap_alloc_at w _)]
    match j, hj with
    | 0, _ => rfl
    | 1, _ => rfl
  have HZ := Lib.hid hz
  have HZ2 := Lib.hid hz2
  clear hz hz2
  go_enter Try.func24, Try.ntmps24
  go_wp2_with fail
  refine (within_any 255 [tos, ttl, proto] (by simp) (w.heap.size + 1) 3 _ (by simp) (HZ.out tos ttl proto _ _ (by simp))).mono ?_
  rintro e w1 ⟨rfl, rfl⟩
  rw [HB1.out]
  cases b1
  · simp only [Bool.false_and] at HR
    go_wp2_with fail
    go_ret
    exact ⟨by rw [HR.out]; rfl, ((((Below.refl _ _).alloc (Nat.le_refl _) _).alloc (by simp) _).alloc (by simp; omega) _)⟩
  · go_wp2_with fail
    refine (within_any 65535 [id, flags] (by simp) (w.heap.size + 3) 2 _ (by simp) (HZ2.out id flags _ _ (by simp))).mono ?_
    rintro e w1 ⟨rfl, rfl⟩
    rw [HB2.out]
    cases b2
    · simp only [Bool.and_false, Bool.false_and] at HR
      go_wp2_with fail
      go_ret
      exact ⟨by rw [HR.out]; rfl, ((((((Below.refl _ _).alloc (Nat.le_refl _) _).alloc (by simp) _).alloc (by simp; omega) _).alloc (by simp; omega) _).alloc (by simp; omega) _)⟩
    · by_cases h4 : opts.length ≤ 40
      · have h4b : decide ((opts.length : Int) ≤ 40) = true := by simp; omega
        rw [decide_eq_true h4] at HR
        simp only [Bool.true_and] at HR
        go_wp2_with fail
        go_ret
        exact ⟨by rw [HR.out]; exact ret_bool (by rw [Bool.eq_iff_iff]; simp; omega), ((((((Below.refl _ _).alloc (Nat.le_refl _) _).alloc (by simp) _).alloc (by simp; omega) _).alloc (by simp; omega) _).alloc (by simp; omega) _)⟩
      · have h4b : decide ((opts.length : Int) ≤ 40) = false := by simp; omega
        rw [decide_eq_false h4] at HR
        simp only [Bool.true_and, Bool.false_and] at HR
        go_wp2_with fail
        go_ret
        exact ⟨by rw [HR.out]; rfl, ((((((Below.refl _ _).alloc (Nat.le_refl _) _).alloc (by simp) _).alloc (by simp; omega) _).alloc (by simp; omega) _).alloc (by simp; omega) _)⟩

set_option maxRecDepth 100000 in
set_option maxHeartbeats 1000000 in
theorem refright_any (h : Hd) (A : Option Addr) (c : Nat) (w : World) (hn : h.opts.length ≤ 140737488355328) :
    Calls Try.prog 26 #[.agg (hv h A c)] w fun e w' => e = .returned (.bool (rightB h)) ∧ Below w.heap.size w w' := by
  obtain ⟨tos, id, flags, ttl, proto, s0, s1, s2, s3, d0, d1, d2, d3, opts⟩ := h
  simp only [hv] at *
  have HR : Hid (rightB ⟨tos, id, flags, ttl, proto, s0, s1, s2, s3, d0, d1, d2, d3, opts⟩ = (!(bad 255 tos || (bad 255 ttl || bad 255 proto)) && !(bad 65535 id || bad 65535 flags) && decide (opts.length ≤ 40) && decide (opts.length % 4 = 0))) := Lib.hid (by simp [rightB])
  have i0 : ∀ w, (Instr.index 57 (.agg #[.int .i64 tos, .int .i64 ttl, .int .i64 proto]) (.int .i64 0)).run Try.prog w = .ok (.int .i64 tos) w := fun _ => by kernel_rfl
  have i1 : ∀ w, (Instr.index 57 (.agg #[.int .i64 tos, .int .i64 ttl, .int .i64 proto]) (.int .i64 1)).run Try.prog w = .ok (.int .i64 ttl) w := fun _ => by kernel_rfl
  have i2 : ∀ w, (Instr.index 57 (.agg #[.int .i64 tos, .int .i64 ttl, .int .i64 proto]) (.int .i64 2)).run Try.prog w = .ok (.int .i64 proto) w := fun _ => by kernel_rfl
  go_enter Try.func26, Try.ntmps26
  go_wp2_with fail
  go_loop [12] (fun i => ∃ j : Nat, i = .int .i64 j ∧ (j = 0 ∨ (j = 1 ∧ Hid (bad 255 tos = false)) ∨ (j = 2 ∧ Hid (bad 255 tos = false) ∧ Hid (bad 255 ttl = false)) ∨ (j = 3 ∧ Hid (bad 255 tos = false) ∧ Hid (bad 255 ttl = false) ∧ Hid (bad 255 proto = false)))) (fun i => 3 - (intOf i).toNat)
  case atStart => exact ⟨0, rfl, .inl rfl⟩
  case round =>
    obtain ⟨j, rfl, hj⟩ := hrel
    have one : ∀ x : Int, Hid (bad 255 x = true) ∧ (x < 0 ∨ (¬ x < 0 ∧ 255 < x)) ∨ Hid (bad 255 x = false) ∧ ¬ x < 0 ∧ ¬ 255 < x := fun x => by
      by_cases a : x < 0
      · exact .inl ⟨Lib.hid (by simp [bad, a]), .inl a⟩
      · by_cases b : 255 < x
        · exact .inl ⟨Lib.hid (by simp [bad, b]), .inr ⟨a, b⟩⟩
        · exact .inr ⟨Lib.hid (by simp only [bad, Bool.or_eq_false_iff, decide_eq_false_iff_not]; omega), a, b⟩
    rcases hj with rfl | ⟨rfl, q0⟩ | ⟨rfl, q0, q1⟩ | ⟨rfl, q0, q1, q2⟩
    · rcases one tos with ⟨hb, ha | ⟨ha, hc⟩⟩ | ⟨hb, ha, hc⟩
      · clear one
        go_wp2_with fail
        go_ret
        exact ⟨by rw [HR.out, hb.out]; rfl, (Below.refl _ _).alloc (Nat.le_refl _) _⟩
      · clear one
        go_wp2_with fail
        go_ret
        exact ⟨by rw [HR.out, hb.out]; rfl, (Below.refl _ _).alloc (Nat.le_refl _) _⟩
      · clear one
        go_wp2_with fail
        exact ⟨⟨1, rfl, .inr (.inl ⟨rfl, hb⟩)⟩, by simp [intOf]⟩
    · rcases one ttl with ⟨hb, ha | ⟨ha, hc⟩⟩ | ⟨hb, ha, hc⟩
      · clear one
        go_wp2_with fail
        go_ret
        exact ⟨by rw [HR.out, hb.out]; simp, (Below.refl _ _).alloc (Nat.le_refl _) _⟩
      · clear one
        go_wp2_with fail
        go_ret
        exact ⟨by rw [HR.out, hb.out]; simp, (Below.refl _ _).alloc (Nat.le_refl _) _⟩
      · clear one
        go_wp2_with fail
        exact ⟨⟨2, rfl, .inr (.inr (.inl ⟨rfl, q0, hb⟩))⟩, by simp [intOf]⟩
    · rcases one proto with ⟨hb, ha | ⟨ha, hc⟩⟩ | ⟨hb, ha, hc⟩
      · clear one
        go_wp2_with fail
        go_ret
        exact ⟨by rw [HR.out, hb.out]; simp, (Below.refl _ _).alloc (Nat.le_refl _) _⟩
      · clear one
        go_wp2_with fail
        go_ret
        exact ⟨by rw [HR.out, hb.out]; simp, (Below.refl _ _).alloc (Nat.le_refl _) _⟩
      · clear one
        go_wp2_with fail
        exact ⟨⟨3, rfl, .inr (.inr (.inr ⟨rfl, q0, q1, hb⟩))⟩, by simp [intOf]⟩
    · clear one
      have HR2 : Hid (rightB ⟨tos, id, flags, ttl, proto, s0, s1, s2, s3, d0, d1, d2, d3, opts⟩ = (decide (0 ≤ id) && decide (id ≤ 65535) && decide (0 ≤ flags) && decide (flags ≤ 65535) && decide (opts.length ≤ 40) && decide (opts.length % 4 = 0))) := Lib.hid (by
        rw [HR.out, q0.out, q1.out, q2.out]
        rw [Bool.eq_iff_iff]
        simp [bad]
        omega)
      by_cases a1 : 0 ≤ id
      · by_cases a2 : id ≤ 65535
        · by_cases a3 : 0 ≤ flags
          · by_cases a4 : flags ≤ 65535
            · by_cases a5 : opts.length ≤ 40
              · have h5 : decide ((opts.length : Int) ≤ 40) = true := by simp; omega
                go_wp2_with fail
                go_ret
                exact ⟨by rw [HR2.out]; exact ret_bool (by rw [Bool.eq_iff_iff]; simp [a1, a2, a3, a4, a5]; omega), (Below.refl _ _).alloc (Nat.le_refl _) _⟩
              · have h5 : decide ((opts.length : Int) ≤ 40) = false := by simp; omega
                go_wp2_with fail
                go_ret
                exact ⟨by rw [HR2.out]; exact ret_bool (by simp [a5]), (Below.refl _ _).alloc (Nat.le_refl _) _⟩
            · have h5 : decide (flags ≤ 65535) = false := by simp; omega
              go_wp2_with fail
              go_ret
              exact ⟨by rw [HR2.out]; exact ret_bool (by simp; omega), (Below.refl _ _).alloc (Nat.le_refl _) _⟩
          · have h5 : decide (0 ≤ flags) = false := by simp; omega
            go_wp2_with fail
            go_ret
            exact ⟨by rw [HR2.out]; exact ret_bool (by simp; omega), (Below.refl _ _).alloc (Nat.le_refl _) _⟩
        · have h5 : decide (id ≤ 65535) = false := by simp; omega
          go_wp2_with fail
          go_ret
          exact ⟨by rw [HR2.out]; exact ret_bool (by simp; omega), (Below.refl _ _).alloc (Nat.le_refl _) _⟩
      · have h5 : decide (0 ≤ id) = false := by simp; omega
        go_wp2_with fail
        go_ret
        exact ⟨by rw [HR2.out]; exact ret_bool (by simp; omega), (Below.refl _ _).alloc (Nat.le_refl _) _⟩
end Go.Proofs.Ytjembpchgemhnaa.Head
