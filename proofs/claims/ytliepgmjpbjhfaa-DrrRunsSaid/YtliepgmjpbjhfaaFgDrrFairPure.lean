/- The plain law of DrrFair: shares. No program in sight. -/
import Derived.Test.YtliepgmjpbjhfaaFgDrrTurnsPure
set_option linter.unusedVariables false
set_option linter.unusedSimpArgs false
namespace Go.Proofs.Ytliepgmjpbjhfaa.Drr

/-- What was sent till some moment, and why: so many quanta each, less what is saved. -/
structure Snap (qs : List Int) (most : Int) (sent : List Int) (r df : Int → Int) (vis : Int → Bool) : Prop where
  is : ∀ i : Nat, i < qs.length → sent.getD i 0 = r i * qs.getD i 0 - df i ∧ 0 ≤ df i ∧ df i ≤ most + (if vis i = true then qs.getD i 0 else 0)
  two : ∀ i j : Nat, i < j → j < qs.length → (r i - r j = 0 ∨ r i - r j = 1) ∧ (vis i = true → r i - r j = 1) ∧ (vis j = true → r i - r j = 0)
def Sn (qs : List Int) (most : Int) (sent : List Int) : Prop := ∃ r df vis, Snap qs most sent r df vis
theorem fair_arith {ri rj Ri Rj qi qj di dj Di Dj most : Int} {vi vj Vi Vj : Bool} (hqi : 0 ≤ qi) (hqj : 0 ≤ qj) (hm : 0 ≤ most)
    (h1 : 0 ≤ di ∧ di ≤ most + (if vi = true then qi else 0)) (h2 : 0 ≤ dj ∧ dj ≤ most + (if vj = true then qj else 0))
    (h3 : 0 ≤ Di ∧ Di ≤ most + (if Vi = true then qi else 0)) (h4 : 0 ≤ Dj ∧ Dj ≤ most + (if Vj = true then qj else 0))
    (s : Int) (a1 : ri - rj = s ∨ ri - rj = s + 1) (a2 : vi = true → ri - rj = s + 1) (a3 : vj = true → ri - rj = s)
    (b1 : Ri - Rj = s ∨ Ri - Rj = s + 1) (b2 : Vi = true → Ri - Rj = s + 1) (b3 : Vj = true → Ri - Rj = s) :
    ((Ri * qi - Di) - (ri * qi - di)) * qj ≤ ((Rj * qj - Dj) - (rj * qj - dj)) * qi + qi * qj + most * qi + most * qj := by
  have eL : ((Ri * qi - Di) - (ri * qi - di)) * qj = (Ri - ri) * (qi * qj) - Di * qj + di * qj := by
    rw [Int.sub_mul, Int.sub_mul, Int.sub_mul, Int.sub_mul, Int.mul_assoc, Int.mul_assoc]; omega
  have eR : ((Rj * qj - Dj) - (rj * qj - dj)) * qi = (Rj - rj) * (qi * qj) - Dj * qi + dj * qi := by
    rw [Int.sub_mul, Int.sub_mul, Int.sub_mul, Int.sub_mul, Int.mul_assoc, Int.mul_assoc, Int.mul_comm qj qi]; omega
  rw [eL, eR]
  have p0 : 0 ≤ qi * qj := Int.mul_nonneg hqi hqj
  have pm1 : 0 ≤ most * qi := Int.mul_nonneg hm hqi
  have pm2 : 0 ≤ most * qj := Int.mul_nonneg hm hqj
  have n1 : 0 ≤ Di * qj := Int.mul_nonneg h3.1 hqj
  have n2 : 0 ≤ dj * qi := Int.mul_nonneg h2.1 hqi
  have m1 : di * qj ≤ most * qj + (if vi = true then qi * qj else 0) := by
    have := Int.mul_le_mul_of_nonneg_right h1.2 hqj
    rw [Int.add_mul] at this
    split at this <;> rename_i hv
    · rw [if_pos hv]; exact this
    · rw [if_neg hv]; simpa using this
  have m2 : Dj * qi ≤ most * qi + (if Vj = true then qi * qj else 0) := by
    have := Int.mul_le_mul_of_nonneg_right h4.2 hqi
    rw [Int.add_mul] at this
    split at this <;> rename_i hv
    · rw [if_pos hv]; rw [Int.mul_comm qj qi] at this; exact this
    · rw [if_neg hv]; simpa using this
  have hd : (Ri - ri) * (qi * qj) - (Rj - rj) * (qi * qj) = ((Ri - Rj) - (ri - rj)) * (qi * qj) := by
    rw [← Int.sub_mul]; congr 1; omega
  generalize qi * qj = P at *
  generalize (Ri - ri) * P = X at *
  generalize (Rj - rj) * P = Y at *
  have h0 : (Ri - Rj) - (ri - rj) = 1 ∨ (Ri - Rj) - (ri - rj) = 0 ∨ (Ri - Rj) - (ri - rj) = -1 := by omega
  generalize di * qj = A at *
  generalize Dj * qi = B at *
  generalize Di * qj = C at *
  generalize dj * qi = E at *
  generalize most * qi = M1 at *
  generalize most * qj = M2 at *
  rcases h0 with h0 | h0 | h0
  · rw [h0, Int.one_mul] at hd
    have hv1 : ¬ vi = true := fun h => by have := a2 h; omega
    have hv2 : ¬ Vj = true := fun h => by have := b3 h; omega
    rw [if_neg hv1] at m1
    rw [if_neg hv2] at m2
    omega
  · rw [h0, Int.zero_mul] at hd
    by_cases hv1 : vi = true
    · have hv2 : ¬ Vj = true := fun h => by have := b3 h; have := a2 hv1; omega
      rw [if_neg hv2] at m2
      rw [if_pos hv1] at m1
      omega
    · rw [if_neg hv1] at m1
      split at m2 <;> omega
  · rw [h0, Int.neg_mul, Int.one_mul] at hd
    split at m1 <;> split at m2 <;> omega
theorem fair_two {qs : List Int} {most : Int} {A B : List Int} (ha : Sn qs most A) (hb : Sn qs most B) (hq : ∀ i, 0 ≤ qs.getD i 0) (hm : 0 ≤ most) (hab : ∀ i, A.getD i 0 ≤ B.getD i 0) (i j : Nat) (hi : i < qs.length) (hj : j < qs.length) :
    (B.getD i 0 - A.getD i 0) * qs.getD j 0 ≤ (B.getD j 0 - A.getD j 0) * qs.getD i 0 + qs.getD i 0 * qs.getD j 0 + most * qs.getD i 0 + most * qs.getD j 0 := by
  obtain ⟨r, df, vis, ha⟩ := ha
  obtain ⟨R, Df, Vis, hb⟩ := hb
  obtain ⟨e1, e2, e3⟩ := ha.is i hi
  obtain ⟨f1, f2, f3⟩ := ha.is j hj
  obtain ⟨g1, g2, g3⟩ := hb.is i hi
  obtain ⟨k1, k2, k3⟩ := hb.is j hj
  rcases Nat.lt_trichotomy i j with h | h | h
  · obtain ⟨t1, t2, t3⟩ := ha.two i j h hj
    obtain ⟨u1, u2, u3⟩ := hb.two i j h hj
    rw [e1, f1, g1, k1]
    exact fair_arith (hq i) (hq j) hm ⟨e2, e3⟩ ⟨f2, f3⟩ ⟨g2, g3⟩ ⟨k2, k3⟩ 0 (by omega) (fun h => by have := t2 h; omega) t3 (by omega) (fun h => by have := u2 h; omega) u3
  · subst h
    have := Int.mul_nonneg (hq i) (hq i)
    have := Int.mul_nonneg hm (hq i)
    omega
  · obtain ⟨t1, t2, t3⟩ := ha.two j i h hi
    obtain ⟨u1, u2, u3⟩ := hb.two j i h hi
    rw [e1, f1, g1, k1]
    exact fair_arith (hq i) (hq j) hm ⟨e2, e3⟩ ⟨f2, f3⟩ ⟨g2, g3⟩ ⟨k2, k3⟩ (-1) (by omega) (fun h => by have := t3 h; omega) (fun h => by have := t2 h; omega) (by omega) (fun h => by have := u3 h; omega) (fun h => by have := u2 h; omega)

/-- What may be between two members' quanta: the least. -/
def mn (x y : Int) : Int := if x < y then 0 else -1
def vz (s : Sc) (x : Int) : Bool := match fnd s.ms x with | some m => m.vis | none => false
structure Fr (qs : List Int) (most : Int) (s : Sc) (r : Int → Int) (sent : List Int) : Prop where
  all : ∀ i : Nat, i < qs.length → (i : Int) ∈ s.act
  only : ∀ x ∈ s.act, 0 ≤ x ∧ x < qs.length
  nodup : s.act.Nodup
  pw : s.act.Pairwise (fun x y => r x - r y = mn x y + (if vz s x = true then 1 else 0))
  tail : ∀ x ∈ s.act.drop 1, vz s x = false
  each : ∀ x ∈ s.act, ∃ m, fnd s.ms x = some m ∧ m.q = qs.getD x.toNat 0 ∧ 0 ≤ m.df ∧ m.df ≤ most + (if m.vis = true then m.q else 0) ∧ sent.getD x.toNat 0 = r x * m.q - m.df
theorem Fr.snap {qs : List Int} {most : Int} {s : Sc} {r : Int → Int} {sent : List Int} (h : Fr qs most s r sent) : Sn qs most sent := by
  refine ⟨r, fun x => match fnd s.ms x with | some m => m.df | none => 0, vz s, fun i hi => ?_, fun i j hij hj => ?_⟩
  · obtain ⟨m, h1, h2, h3, h4, h5⟩ := h.each i (h.all i hi)
    rw [Int.toNat_natCast] at h2 h5
    have hv : vz s i = m.vis := by unfold vz; rw [h1]
    simp only [h1]
    rw [hv, ← h2]
    exact ⟨h5, h3, h4⟩
  · have hi := h.all i (by omega)
    have hjm := h.all j hj
    have key : ∀ {x y : Int}, x ∈ s.act → y ∈ s.act → x ≠ y → (r x - r y = mn x y + (if vz s x = true then 1 else 0) ∧ vz s y = false) ∨ (r y - r x = mn y x + (if vz s y = true then 1 else 0) ∧ vz s x = false) := by
      intro x y hx hy hne
      obtain ⟨p, hp, rfl⟩ := List.getElem_of_mem hx
      obtain ⟨q, hq, rfl⟩ := List.getElem_of_mem hy
      have ht : ∀ k (hk : k < s.act.length), 0 < k → vz s (s.act[k]) = false := fun k hk h0 => h.tail _ (by
        have : s.act[k] = (s.act.drop 1)[k - 1]'(by rw [List.length_drop]; omega) := by rw [List.getElem_drop]; congr 1; omega
        rw [this]; exact List.getElem_mem _)
      rcases Nat.lt_trichotomy p q with hpq | hpq | hpq
      · exact .inl ⟨List.pairwise_iff_getElem.1 h.pw p q hp hq hpq, ht q hq (by omega)⟩
      · subst hpq; exact absurd rfl hne
      · exact .inr ⟨List.pairwise_iff_getElem.1 h.pw q p hq hp hpq, ht p hp (by omega)⟩
    have m1 : mn (i : Int) j = 0 := if_pos (by omega)
    have m2 : mn (j : Int) i = -1 := if_neg (by omega)
    rcases key hi hjm (by omega) with ⟨h1, h2⟩ | ⟨h1, h2⟩
    · rw [m1] at h1
      rw [h2]
      refine ⟨by split at h1 <;> omega, fun hv => ?_, (fun hv => by cases hv)⟩
      rw [if_pos hv] at h1; omega
    · rw [m2] at h1
      rw [h2]
      refine ⟨by split at h1 <;> omega, (fun hv => by cases hv), fun hv => ?_⟩
      rw [if_pos hv] at h1; omega

theorem vz_some {s : Sc} {x : Int} {m : Mb} (h : fnd s.ms x = some m) : vz s x = m.vis := by unfold vz; rw [h]
section
variable {qs : List Int} {most : Int} {s s' : Sc} {r : Int → Int} {sent : List Int} {x : Int} {rest : List Int}
/-- The same, but for the first one. -/
theorem Fr.first (h : Fr qs most s r sent) (ha : s.act = x :: rest) {m' : Mb} {r' : Int → Int} {sent' : List Int} (ha' : s'.act = x :: rest) (hf : ∀ y, fnd s'.ms y = if y = x then some m' else fnd s.ms y) (hq : m'.q = qs.getD x.toNat 0)
    (hd0 : 0 ≤ m'.df) (hd1 : m'.df ≤ most + (if m'.vis = true then m'.q else 0)) (hr : ∀ y, y ≠ x → r' y = r y) (hse : ∀ y : Int, 0 ≤ y → y ≠ x → sent'.getD y.toNat 0 = sent.getD y.toNat 0) (hsx : sent'.getD x.toNat 0 = r' x * m'.q - m'.df)
    (hrv : r' x - (if m'.vis = true then 1 else 0) = r x - (if vz s x = true then 1 else 0)) : Fr qs most s' r' sent' := by
  have hn := h.nodup
  rw [ha, List.nodup_cons] at hn
  have hne : ∀ y ∈ rest, y ≠ x := fun y hy e => hn.1 (e ▸ hy)
  have hvy : ∀ y, y ≠ x → vz s' y = vz s y := fun y hy => by unfold vz; rw [hf, if_neg hy]
  have hvx : vz s' x = m'.vis := by unfold vz; rw [hf, if_pos rfl]
  have hpw := h.pw
  rw [ha, List.pairwise_cons] at hpw
  refine ⟨by rw [ha', ← ha]; exact h.all, by rw [ha', ← ha]; exact h.only, by rw [ha', ← ha]; exact h.nodup, ?_, ?_, ?_⟩
  · rw [ha', List.pairwise_cons]
    refine ⟨fun y hy => ?_, ?_⟩
    · have h1 := hpw.1 y hy
      rw [hr y (hne y hy), hvx]
      omega
    · refine List.Pairwise.imp_of_mem ?_ hpw.2
      intro a b ha2 hb2 hab
      rw [hr a (hne a ha2), hr b (hne b hb2), hvy a (hne a ha2)]
      exact hab
  · rw [ha', List.drop_succ_cons, List.drop_zero]
    intro y hy
    rw [hvy y (hne y hy)]
    exact h.tail y (by rw [ha]; exact hy)
  · rw [ha']
    intro y hy
    by_cases e : y = x
    · subst e
      exact ⟨m', by rw [hf, if_pos rfl], hq, hd0, hd1, hsx⟩
    · obtain ⟨m, h1, h2, h3, h4, h5⟩ := h.each y (by rw [ha]; exact hy)
      exact ⟨m, by rw [hf, if_neg e]; exact h1, h2, h3, h4, by rw [hse y (h.only y (by rw [ha]; exact hy)).1 e, hr y e]; exact h5⟩
theorem Fr.visit (h : Fr qs most s r sent) (ha : s.act = x :: rest) (hb : 0 ≤ most ∧ most ≤ 16777216) (hqs : ∀ i, i < qs.length → most ≤ qs.getD i 0 ∧ qs.getD i 0 ≤ 16777216 ∧ 0 ≤ qs.getD i 0) :
    ∃ (m' : Mb) (r' : Int → Int), Fr qs most s.front r' sent ∧ s.frontV = .tuple #[.int .i64 x, .int .u64 m'.df, .bool true] ∧ fnd s.front.ms x = some m' ∧ m'.vis = true ∧ s.front.act = x :: rest ∧ 0 ≤ m'.df ∧ (vz s x = false → most ≤ m'.df) := by
  obtain ⟨m, h1, h2, h3, h4, h5⟩ := h.each x (by rw [ha]; simp)
  obtain ⟨f1, f2⟩ := front_is ha h1
  have f3 := front_fnd ha h1
  have f4 := front_act ha h1
  have hx := h.only x (by rw [ha]; simp)
  have hq := hqs x.toNat (by omega)
  rw [← h2] at hq
  have hvz := vz_some h1
  cases hv : m.vis with
  | true =>
    have e : m.visit = m := by unfold Mb.visit; rw [if_pos hv]
    rw [e] at f2 f3
    rw [hv] at h4 hvz
    refine ⟨m, r, h.first ha f4 f3 h2 h3 (by rw [hv]; exact h4) (fun _ _ => rfl) (fun _ _ _ => rfl) h5 (by rw [hvz, hv]), f2, by rw [f3, if_pos rfl], hv, f4, h3, fun hc => by rw [hvz] at hc; cases hc⟩
  | false =>
    have e : m.visit = ⟨m.who, m.q, min (m.df + m.q) 18446744073709551615, true⟩ := by unfold Mb.visit; rw [if_neg (by rw [hv]; decide)]
    rw [hv] at h4 hvz
    rw [if_neg (by decide)] at h4
    have hmn : min (m.df + m.q) 18446744073709551615 = m.df + m.q := by omega
    rw [hmn] at e
    rw [e] at f2 f3
    refine ⟨⟨m.who, m.q, m.df + m.q, true⟩, fun y => if y = x then r x + 1 else r y, h.first ha f4 f3 h2 ?_ ?_ (fun y hy => if_neg hy) (fun _ _ _ => rfl) ?_ ?_, f2, by rw [f3, if_pos rfl], rfl, f4, ?_, fun _ => ?_⟩
    · show 0 ≤ m.df + m.q; omega
    · show m.df + m.q ≤ most + (if true = true then m.q else 0); rw [if_pos rfl]; omega
    · show _ = (if x = x then r x + 1 else r x) * m.q - (m.df + m.q)
      rw [if_pos rfl, h5, Int.add_mul]; omega
    · show (if x = x then r x + 1 else r x) - (if true = true then 1 else 0) = _
      rw [if_pos rfl, if_pos rfl, hvz, if_neg (by decide)]; omega
    · show 0 ≤ m.df + m.q; omega
    · show most ≤ m.df + m.q; omega
theorem Fr.sends (h : Fr qs most s r sent) (ha : s.act = x :: rest) {m : Mb} (hm : fnd s.ms x = some m) (hv : m.vis = true) {n : Int} (hn : 0 ≤ n) (hle : n ≤ m.df) (hl : x.toNat < sent.length) :
    s.spendB n = true ∧ Fr qs most (s.spend n) r (sent.set x.toNat (sent.getD x.toNat 0 + n)) ∧ (s.spend n).act = x :: rest := by
  obtain ⟨g1, g2, g3⟩ := spend_is ha hm hv n
  rw [if_pos hle] at g3
  obtain ⟨m2, h1, h2, h3, h4, h5⟩ := h.each x (by rw [ha]; simp)
  rw [hm] at h1
  injection h1 with h1
  subst h1
  have hx := h.only x (by rw [ha]; simp)
  rw [hv, if_pos rfl] at h4
  refine ⟨by rw [g1]; exact decide_eq_true hle, h.first ha g2 g3 h2 (by show 0 ≤ m.df - n; omega) (by show m.df - n ≤ most + (if true = true then m.q else 0); rw [if_pos rfl]; omega) (fun _ _ => rfl) (fun y hy hne => ?_) ?_ ?_, g2⟩
  · rw [List.getD_eq_getElem?_getD, List.getElem?_set_ne (by omega), ← List.getD_eq_getElem?_getD]
  · rw [List.getD_eq_getElem?_getD, List.getElem?_set_self hl]
    show sent.getD x.toNat 0 + n = r x * m.q - (m.df - n)
    rw [h5]; omega
  · show r x - (if true = true then 1 else 0) = _
    rw [if_pos rfl, vz_some hm, if_pos hv]
theorem Fr.leaves (h : Fr qs most s r sent) (ha : s.act = x :: rest) {m : Mb} (hm : fnd s.ms x = some m) (hv : m.vis = true) (hle : m.df ≤ most) (h2 : rest ≠ []) :
    s.leaveB = true ∧ Fr qs most (s.leave true true) r sent ∧ ∃ y rest', (s.leave true true).act = y :: rest' ∧ vz (s.leave true true) y = false := by
  obtain ⟨l1, l2, l3⟩ := leave_is ha hm hv true true
  rw [if_pos rfl] at l2
  have hn := h.nodup
  rw [ha, List.nodup_cons] at hn
  have hne : ∀ y ∈ rest, y ≠ x := fun y hy e => hn.1 (e ▸ hy)
  have hpw := h.pw
  rw [ha, List.pairwise_cons] at hpw
  have hvy : ∀ y, y ≠ x → vz (s.leave true true) y = vz s y := fun y hy => by unfold vz; rw [l3, if_neg hy]
  have hvx : vz (s.leave true true) x = false := by unfold vz; rw [l3, if_pos rfl]
  have htl : ∀ y ∈ rest, vz s y = false := fun y hy => h.tail y (by rw [ha]; exact hy)
  have hmem : ∀ y, y ∈ rest ++ [x] ↔ y ∈ s.act := fun y => by rw [ha]; simp [or_comm]
  have hall : ∀ y ∈ (s.leave true true).act, vz (s.leave true true) y = false := fun y hy => by
    rw [l2] at hy
    rcases List.mem_append.1 hy with hy | hy
    · rw [hvy y (hne y hy)]; exact htl y hy
    · rw [List.mem_singleton.1 hy]; exact hvx
  refine ⟨l1, ⟨fun i hi => by rw [l2]; exact (hmem _).2 (h.all i hi), fun y hy => h.only y ((hmem y).1 (by rw [l2] at hy; exact hy)), ?_, ?_, fun y hy => hall y (List.mem_of_mem_drop hy), fun y hy => ?_⟩, ?_⟩
  · rw [l2, List.nodup_append]
    exact ⟨hn.2, by simp, fun a ha' b hb => by rw [List.mem_singleton.1 hb]; exact hne a ha'⟩
  · rw [l2, List.pairwise_append]
    refine ⟨List.Pairwise.imp_of_mem (fun {a b} ha' hb' hab => ?_) hpw.2, by simp, fun a ha' b hb => ?_⟩
    · rw [hvy a (hne a ha')]; exact hab
    · rw [List.mem_singleton.1 hb, hvy a (hne a ha'), htl a ha', if_neg (by decide)]
      have h1 := hpw.1 a ha'
      rw [vz_some hm, if_pos hv] at h1
      have h3 := hne a ha'
      unfold mn at h1 ⊢
      split at h1 <;> split <;> omega
  · obtain ⟨m2, h1, h2', h3, h4, h5⟩ := h.each y ((hmem y).1 (by rw [l2] at hy; exact hy))
    by_cases e : y = x
    · subst e
      rw [hm] at h1
      injection h1 with h1
      subst h1
      exact ⟨⟨y, m.q, if true = true then m.df else 0, false⟩, by rw [l3, if_pos rfl], h2', by show 0 ≤ (if true = true then m.df else 0); rw [if_pos rfl]; exact h3, by show (if true = true then m.df else 0) ≤ most + (if false = true then m.q else 0); rw [if_pos rfl, if_neg (by decide)]; omega, by show _ = r y * m.q - (if true = true then m.df else 0); rw [if_pos rfl]; exact h5⟩
    · exact ⟨m2, by rw [l3, if_neg e]; exact h1, h2', h3, h4, h5⟩
  · cases rest with
    | nil => exact absurd rfl h2
    | cons y rest' =>
      have e : (s.leave true true).act = y :: (rest' ++ [x]) := l2
      exact ⟨y, rest' ++ [x], e, hall y (by rw [e]; simp)⟩
end
/-- So many members, none of whom has sent. -/
def fq (qs : List Int) (k : Nat) : Sc := ⟨(List.range k).map fun (i : Nat) => ⟨(i : Int), qs.getD i 0, 0, false⟩, (List.range k).map fun (i : Nat) => (i : Int)⟩
theorem fnd_fq (qs : List Int) : ∀ (k : Nat) (x : Int), fnd (fq qs k).ms x = if 0 ≤ x ∧ x < k then some ⟨x, qs.getD x.toNat 0, 0, false⟩ else none
  | 0, x => by rw [if_neg (by omega)]; rfl
  | k + 1, x => by
    have ih := fnd_fq qs k x
    unfold fnd fq at ih ⊢
    simp only [List.range_succ, List.map_append, List.find?_append, List.map_cons, List.map_nil]
    rw [ih]
    by_cases h : 0 ≤ x ∧ x < k
    · rw [if_pos h, if_pos (by omega)]; rfl
    · rw [if_neg h]
      by_cases e : x = k
      · subst e
        rw [if_pos (by omega)]
        simp
      · rw [if_neg (by omega)]
        have : ((k : Int) == x) = false := by simpa using fun h => e h.symm
        simp [List.find?_cons, this]
theorem fq_next {qs : List Int} {k : Nat} (hk : k < 8) (hq : 0 < qs.getD k 0 ∧ qs.getD k 0 ≤ 16777216) : (fq qs k).setE k (qs.getD k 0) = 0 ∧ ((fq qs k).set k (qs.getD k 0)).wakeE k = 0 ∧ ((fq qs k).set k (qs.getD k 0)).wake k = fq qs (k + 1) := by
  have hf : fnd (fq qs k).ms k = none := by rw [fnd_fq, if_neg (by omega)]
  have e1 : (fq qs k).setE k (qs.getD k 0) = 0 := by
    unfold Sc.setE
    rw [if_neg]
    rintro (h | h | h)
    · omega
    · omega
    · have : 8 ≤ ((List.range k).map fun (i : Nat) => (⟨(i : Int), qs.getD i 0, 0, false⟩ : Mb)).length := h.2
      rw [List.length_map, List.length_range] at this; omega
  have e2 : (fq qs k).set k (qs.getD k 0) = ⟨(fq qs k).ms ++ [⟨k, qs.getD k 0, 0, false⟩], (fq qs k).act⟩ := by
    unfold Sc.set
    rw [if_pos e1, hf]
  have e3 : fnd ((fq qs k).ms ++ [⟨k, qs.getD k 0, 0, false⟩]) k = some ⟨k, qs.getD k 0, 0, false⟩ := by
    unfold fnd at hf ⊢
    rw [List.find?_append, hf]; simp
  have hne : ¬ fnd ((fq qs k).set k (qs.getD k 0)).ms k = none := by rw [e2, e3]; intro e; cases e
  have hni : ¬ (k : Int) ∈ (fq qs k).act := by
    intro h
    obtain ⟨i, hi, he⟩ := List.mem_map.1 h
    have := List.mem_range.1 hi
    omega
  refine ⟨e1, if_neg hne, ?_⟩
  unfold Sc.wake
  rw [if_neg hne, e2, if_neg hni]
  show (⟨(fq qs k).ms ++ [⟨k, qs.getD k 0, 0, false⟩], (fq qs k).act ++ [(k : Int)]⟩ : Sc) = fq qs (k + 1)
  unfold fq
  simp only [List.range_succ, List.map_append, List.map_cons, List.map_nil]
theorem Fr.start (qs : List Int) (most : Int) (hm : 0 ≤ most) : Fr qs most (fq qs qs.length) (fun _ => 0) (List.replicate 8 0) := by
  have hmem : ∀ x, x ∈ (fq qs qs.length).act ↔ 0 ≤ x ∧ x < qs.length := fun x => by
    show x ∈ (List.range qs.length).map (fun (i : Nat) => (i : Int)) ↔ _
    rw [List.mem_map]
    exact ⟨fun ⟨i, hi, he⟩ => by have := List.mem_range.1 hi; omega, fun h => ⟨x.toNat, List.mem_range.2 (by omega), by omega⟩⟩
  refine ⟨fun i hi => (hmem _).2 (by omega), fun x hx => (hmem x).1 hx, ?_, ?_, fun x hx => ?_, fun x hx => ?_⟩
  · show ((List.range qs.length).map (fun (i : Nat) => (i : Int))).Nodup
    rw [List.nodup_iff_pairwise_ne, List.pairwise_map]
    exact (List.nodup_iff_pairwise_ne.1 List.nodup_range).imp (fun h e => h (by omega))
  · show ((List.range qs.length).map (fun (i : Nat) => (i : Int))).Pairwise _
    rw [List.pairwise_map]
    refine List.pairwise_lt_range.imp_of_mem (fun {a b} ha hb hab => ?_)
    have h1 : vz (fq qs qs.length) a = false := by unfold vz; rw [fnd_fq, if_pos (by have := List.mem_range.1 ha; omega)]
    rw [h1, if_neg (by decide)]
    unfold mn
    rw [if_pos (by omega)]
    rfl
  · have := (hmem x).1 (List.mem_of_mem_drop hx)
    unfold vz; rw [fnd_fq, if_pos this]
  · have h := (hmem x).1 hx
    refine ⟨_, by rw [fnd_fq, if_pos h], rfl, Int.le_refl _, by show (0 : Int) ≤ most + (if false = true then _ else 0); rw [if_neg (by decide)]; omega, ?_⟩
    rw [List.getD_eq_getElem?_getD, List.getElem?_replicate]
    split <;> simp
end Go.Proofs.Ytliepgmjpbjhfaa.Drr
