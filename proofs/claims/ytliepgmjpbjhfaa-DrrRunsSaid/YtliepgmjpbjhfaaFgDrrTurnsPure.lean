/- The plain law of DrrTurns. No program in sight. -/
import Derived.Test.YtliepgmjpbjhfaaFgDrrRests1
set_option linter.unusedVariables false
set_option linter.unusedSimpArgs false
namespace Go.Proofs.Ytliepgmjpbjhfaa.Drr

theorem visit_vis (m : Mb) : m.visit.vis = true := by unfold Mb.visit; split <;> first | assumption | rfl
theorem visit_who (m : Mb) : m.visit.who = m.who := by unfold Mb.visit; split <;> rfl
theorem visit_q (m : Mb) : m.visit.q = m.q := by unfold Mb.visit; split <;> rfl
theorem visit_twice (m : Mb) : m.visit.visit = m.visit := by
  have : ∀ m : Mb, m.vis = true → m.visit = m := fun m h => if_pos h
  exact this _ (visit_vis m)
section
variable {s : Sc} {x : Int} {r : List Int} {m : Mb}
theorem head_of (ha : s.act = x :: r) (hm : fnd s.ms x = some m) : s.head = some m := by unfold Sc.head; rw [ha]; exact hm
theorem front_is (ha : s.act = x :: r) (hm : fnd s.ms x = some m) : s.front = ⟨upd s.ms m.visit, s.act⟩ ∧ s.frontV = .tuple #[.int .i64 x, .int .u64 m.visit.df, .bool true] := by
  have hh := head_of ha hm
  unfold Sc.front
  rw [hh]
  refine ⟨rfl, ?_⟩
  have e : s.head = some m := hh
  have : ∀ V : Value, V = .tuple #[.int .i64 m.who, .int .u64 m.visit.df, .bool true] → V = .tuple #[.int .i64 x, .int .u64 m.visit.df, .bool true] := fun V h => by rw [h, fnd_who hm]
  refine this _ ?_
  unfold Sc.frontV
  rw [e]
theorem front_fnd (ha : s.act = x :: r) (hm : fnd s.ms x = some m) (y : Int) : fnd s.front.ms y = if y = x then some m.visit else fnd s.ms y := by
  rw [(front_is ha hm).1]
  show fnd (upd s.ms m.visit) y = _
  rw [fnd_upd, visit_who, fnd_who hm]
  by_cases e : y = x
  · rw [if_pos e, if_pos e, e, hm]; rfl
  · rw [if_neg e, if_neg e]
theorem front_act (ha : s.act = x :: r) (hm : fnd s.ms x = some m) : s.front.act = x :: r := by rw [(front_is ha hm).1]; exact ha
theorem fv_of (ha : s.act = x :: r) (hm : fnd s.ms x = some m) (hv : m.vis = true) : s.fv = some m := by unfold Sc.fv; rw [head_of ha hm]; simp [hv]
theorem spend_is (ha : s.act = x :: r) (hm : fnd s.ms x = some m) (hv : m.vis = true) (n : Int) : s.spendB n = decide (n ≤ m.df) ∧ (s.spend n).act = x :: r ∧
    ∀ y, fnd (s.spend n).ms y = if y = x then some ⟨x, m.q, if n ≤ m.df then m.df - n else m.df, true⟩ else fnd s.ms y := by
  have hf := fv_of ha hm hv
  have hw := fnd_who hm
  unfold Sc.spendB Sc.spend
  rw [hf]
  refine ⟨rfl, ?_, fun y => ?_⟩
  · simp only; split <;> exact ha
  · simp only
    by_cases h : n ≤ m.df
    · rw [if_pos h, if_pos h]
      show fnd (upd s.ms _) y = _
      rw [fnd_upd]
      by_cases e : y = x
      · rw [if_pos (by rw [e]; exact hw.symm), if_pos e, e, hm, ← hw, hv]; rfl
      · rw [if_neg (fun h => e (h.trans hw)), if_neg e]
    · rw [if_neg h, if_neg h]
      by_cases e : y = x
      · rw [if_pos e, e, hm, ← hw, ← hv]
      · rw [if_neg e]
theorem leave_is (ha : s.act = x :: r) (hm : fnd s.ms x = some m) (hv : m.vis = true) (k st : Bool) : s.leaveB = true ∧ (s.leave k st).act = r ++ (if st then [x] else []) ∧
    ∀ y, fnd (s.leave k st).ms y = if y = x then some ⟨x, m.q, if k then m.df else 0, false⟩ else fnd s.ms y := by
  have hf := fv_of ha hm hv
  have hw := fnd_who hm
  unfold Sc.leaveB Sc.leave
  rw [hf]
  refine ⟨rfl, ?_, fun y => ?_⟩
  · show s.act.drop 1 ++ _ = _
    rw [ha, hw]; rfl
  · show fnd (upd s.ms _) y = _
    rw [fnd_upd]
    by_cases e : y = x
    · rw [if_pos (by rw [e]; exact hw.symm), if_pos e, e, hm, ← hw]; rfl
    · rw [if_neg (fun h => e (h.trans hw)), if_neg e]
end

/-- Members that all have the same quantum, all awake. -/
def tn (order : List Int) : Sc := ⟨order.map fun n => ⟨n, 100, 0, false⟩, order⟩
theorem fnd_tn : ∀ (order : List Int) (x : Int), fnd (tn order).ms x = if x ∈ order then some ⟨x, 100, 0, false⟩ else none
  | [], x => rfl
  | y :: r, x => by
    have ih := fnd_tn r x
    unfold fnd tn at ih ⊢
    simp only [List.map_cons, List.find?_cons]
    by_cases e : y = x
    · subst e
      simp
    · have h1 : (y == x) = false := by simpa using e
      rw [h1]
      rw [ih]
      have h2 : x ∈ y :: r ↔ x ∈ r := by rw [List.mem_cons]; exact ⟨fun h => h.elim (fun e2 => absurd e2.symm e) id, .inr⟩
      simp only [h2]
theorem tn_old {order : List Int} {n : Int} (h : n ∈ order) : (tn order).setE n 100 = 0 ∧ (tn order).set n 100 = tn order ∧ (tn order).wakeE n = 0 ∧ (tn order).wake n = tn order := by
  have hf := fnd_tn order n
  rw [if_pos h] at hf
  have hne : ¬ fnd (tn order).ms n = none := by rw [hf]; intro e; cases e
  have e1 : (tn order).setE n 100 = 0 := by
    unfold Sc.setE
    rw [if_neg]
    rintro (h | h | h)
    · exact absurd h (by decide)
    · exact absurd h (by decide)
    · exact hne h.1
  refine ⟨e1, ?_, if_neg hne, ?_⟩
  · unfold Sc.set
    rw [if_pos e1, hf]
    exact if_pos rfl
  · unfold Sc.wake
    rw [if_neg hne]
    exact if_pos h
theorem tn_full {order : List Int} {n : Int} (h : n ∉ order) (h8 : 8 ≤ order.length) : (tn order).setE n 100 = 201 ∧ (tn order).set n 100 = tn order := by
  have hf := fnd_tn order n
  rw [if_neg h] at hf
  have e1 : (tn order).setE n 100 = 201 := by
    unfold Sc.setE
    rw [if_pos (.inr (.inr ⟨hf, by show 8 ≤ (order.map _).length; rw [List.length_map]; exact h8⟩))]
  refine ⟨e1, ?_⟩
  unfold Sc.set
  rw [e1, if_neg (by decide)]
theorem tn_new {order : List Int} {n : Int} (h : n ∉ order) (h8 : order.length < 8) : (tn order).setE n 100 = 0 ∧ ((tn order).set n 100).wakeE n = 0 ∧ ((tn order).set n 100).wake n = tn (order ++ [n]) := by
  have hf := fnd_tn order n
  rw [if_neg h] at hf
  have e1 : (tn order).setE n 100 = 0 := by
    unfold Sc.setE
    rw [if_neg]
    rintro (h | h | h)
    · exact absurd h (by decide)
    · exact absurd h (by decide)
    · have : 8 ≤ (order.map fun n => (⟨n, 100, 0, false⟩ : Mb)).length := h.2
      rw [List.length_map] at this; omega
  have e2 : (tn order).set n 100 = ⟨(tn order).ms ++ [⟨n, 100, 0, false⟩], order⟩ := by
    unfold Sc.set
    rw [if_pos e1, hf]
    rfl
  have e3 : fnd ((tn order).ms ++ [⟨n, 100, 0, false⟩]) n = some ⟨n, 100, 0, false⟩ := by
    unfold fnd at hf ⊢
    rw [List.find?_append, hf]; simp
  have hne : ¬ fnd ((tn order).set n 100).ms n = none := by rw [e2, e3]; intro e; cases e
  refine ⟨e1, if_neg hne, ?_⟩
  unfold Sc.wake
  rw [if_neg hne, e2, if_neg h]
  show (⟨(tn order).ms ++ [⟨n, 100, 0, false⟩], order ++ [n]⟩ : Sc) = tn (order ++ [n])
  unfold tn
  rw [List.map_append]
  rfl

/-- Where the turns stand. -/
def rot (order : List Int) (i : Nat) : List Int := order.drop (i % order.length) ++ order.take (i % order.length)
theorem rot_head {order : List Int} (h : 0 < order.length) (i : Nat) : ∃ r, rot order i = order[i % order.length]'(Nat.mod_lt _ h) :: r ∧ rot order (i + 1) = r ++ [order[i % order.length]'(Nat.mod_lt _ h)] := by
  have hp := Nat.mod_lt i h
  obtain ⟨p, hpe⟩ : ∃ p, i % order.length = p := ⟨_, rfl⟩
  refine ⟨order.drop (p + 1) ++ order.take p, ?_, ?_⟩
  · unfold rot
    simp only [hpe]
    rw [List.drop_eq_getElem_cons (by omega)]
    rfl
  · have hs : (i + 1) % order.length = if p + 1 = order.length then 0 else p + 1 := by
      have hd := Nat.div_add_mod i order.length
      rw [hpe] at hd
      split
      · rename_i e
        have : i + 1 = order.length * (i / order.length + 1) := by rw [Nat.mul_add]; omega
        rw [this, Nat.mul_mod_right]
      · have : i + 1 = p + 1 + order.length * (i / order.length) := by omega
        rw [this, Nat.add_mul_mod_self_left]
        exact Nat.mod_eq_of_lt (by omega)
    unfold rot
    rw [hs]
    simp only [hpe]
    have ht : order.take (p + 1) = order.take p ++ [order[p]] := by rw [List.take_add_one, List.getElem?_eq_getElem (by omega)]; rfl
    split
    · rename_i e
      rw [List.drop_zero, List.take_zero, List.append_nil, List.drop_of_length_le (by omega), List.nil_append, ← ht, List.take_of_length_le (by omega)]
    · rw [ht, List.append_assoc]
structure Tn (order : List Int) (i : Nat) (s : Sc) : Prop where
  act : s.act = rot order i
  each : ∀ x ∈ order, ∃ m, fnd s.ms x = some m ∧ m.q = 100 ∧ m.vis = false ∧ 0 ≤ m.df
theorem tn_start (order : List Int) : Tn order 0 (tn order) :=
  ⟨by show order = _; unfold rot; simp, fun x hx => ⟨_, by rw [fnd_tn, if_pos hx], rfl, rfl, Int.le_refl _⟩⟩
/-- One turn. -/
theorem Tn.turn {order : List Int} {i : Nat} {s : Sc} (h : Tn order i s) (h0 : 0 < order.length) (n : Int) (hn : 0 ≤ n) : ∃ d : Int, 100 ≤ d ∧ d ≤ 18446744073709551615 ∧
    s.frontV = .tuple #[.int .i64 (order[i % order.length]'(Nat.mod_lt _ h0)), .int .u64 d, .bool true] ∧ s.front.spendB n = decide (n ≤ d) ∧
    (s.front.spend n).frontV = .tuple #[.int .i64 (order[i % order.length]'(Nat.mod_lt _ h0)), .int .u64 (if n ≤ d then d - n else d), .bool true] ∧
    (s.front.spend n).front.leaveB = true ∧ Tn order (i + 1) ((s.front.spend n).front.leave true true) := by
  obtain ⟨r, hr, hr2⟩ := rot_head h0 i
  obtain ⟨x, hx⟩ : ∃ x, order[i % order.length]'(Nat.mod_lt _ h0) = x := ⟨_, rfl⟩
  have hxm : x ∈ order := by rw [← hx]; exact List.getElem_mem _
  rw [hx] at hr hr2 ⊢
  obtain ⟨m, hm, hq, hv, hd⟩ := h.each x hxm
  have ha : s.act = x :: r := h.act.trans hr
  have hvis : m.visit = ⟨m.who, m.q, min (m.df + m.q) 18446744073709551615, true⟩ := by unfold Mb.visit; rw [if_neg (by rw [hv]; decide)]
  obtain ⟨f1, f2⟩ := front_is ha hm
  have f3 := front_fnd ha hm
  have f4 := front_act ha hm
  have f5 : fnd s.front.ms x = some m.visit := by rw [f3, if_pos rfl]
  obtain ⟨g1, g2, g3⟩ := spend_is f4 f5 (visit_vis m) n
  have g4 : fnd (s.front.spend n).ms x = some ⟨x, m.visit.q, if n ≤ m.visit.df then m.visit.df - n else m.visit.df, true⟩ := by rw [g3, if_pos rfl]
  obtain ⟨k1, k2⟩ := front_is g2 g4
  have k3 := front_fnd g2 g4
  have k4 := front_act g2 g4
  have hvv : (⟨x, m.visit.q, if n ≤ m.visit.df then m.visit.df - n else m.visit.df, true⟩ : Mb).visit = ⟨x, m.visit.q, if n ≤ m.visit.df then m.visit.df - n else m.visit.df, true⟩ := rfl
  rw [hvv] at k2 k3
  have k5 : fnd (s.front.spend n).front.ms x = some ⟨x, m.visit.q, if n ≤ m.visit.df then m.visit.df - n else m.visit.df, true⟩ := by rw [k3, if_pos rfl]
  obtain ⟨l1, l2, l3⟩ := leave_is k4 k5 rfl true true
  have hdf : m.visit.df = min (m.df + 100) 18446744073709551615 := by rw [hvis, hq]
  refine ⟨m.visit.df, by rw [hdf]; omega, by rw [hdf]; omega, f2, g1, k2, l1, by rw [l2, hr2]; rfl, fun y hy => ?_⟩
  rw [l3]
  by_cases e : y = x
  · rw [if_pos e]
    exact ⟨_, rfl, (visit_q m).trans hq, rfl, by show 0 ≤ (if true = true then (if n ≤ m.visit.df then m.visit.df - n else m.visit.df) else 0); rw [if_pos rfl]; split <;> omega⟩
  · rw [if_neg e, k3, if_neg e, g3, if_neg e, f3, if_neg e]
    exact h.each y hy
end Go.Proofs.Ytliepgmjpbjhfaa.Drr
