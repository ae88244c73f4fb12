/- The plain law of floodgate's scheduler: members, and who is active. No program in sight. -/
import Derived.Test.YtliepgmjpbjhfaaFgDrrLay
set_option linter.unusedVariables false
set_option linter.unusedSimpArgs false
namespace Go.Proofs.Ytliepgmjpbjhfaa.Drr

/-- One that sends. -/
structure Mb where
  who : Int
  q : Int
  df : Int
  vis : Bool
structure Sc where
  ms : List Mb
  act : List Int
def fnd (ms : List Mb) (who : Int) : Option Mb := ms.find? fun m => m.who == who
def upd (ms : List Mb) (m' : Mb) : List Mb := ms.map fun m => if m.who = m'.who then m' else m
structure Mb.ok (m : Mb) : Prop where
  wf : (Lit.int .i64 m.who).wf = true
  q0 : 0 < m.q
  q1 : m.q ≤ 281474976710656
  d0 : 0 ≤ m.df
  d1 : m.df < 18446744073709551616
structure Sc.ok (s : Sc) : Prop where
  apart : (s.ms.map Mb.who).Nodup
  each : ∀ m ∈ s.ms, m.ok
  few : s.ms.length ≤ 8
  nodup : s.act.Nodup
  there : ∀ x ∈ s.act, ∃ m, fnd s.ms x = some m
def Sc.new : Sc := ⟨[], []⟩
theorem Sc.new_ok : Sc.new.ok := ⟨List.nodup_nil, (fun m h => by cases h), by decide, List.nodup_nil, fun x h => by cases h⟩
theorem fnd_who {ms : List Mb} {x : Int} {m : Mb} (h : fnd ms x = some m) : m.who = x := by simpa using List.find?_some h
theorem fnd_mem {ms : List Mb} {x : Int} {m : Mb} (h : fnd ms x = some m) : m ∈ ms := List.mem_of_find?_eq_some h
theorem fnd_none {ms : List Mb} {x : Int} : fnd ms x = none ↔ ∀ m ∈ ms, m.who ≠ x := by simp [fnd]
theorem fnd_of_mem : ∀ {ms : List Mb} {m : Mb}, (ms.map Mb.who).Nodup → m ∈ ms → fnd ms m.who = some m
  | [], m, _, h => by cases h
  | y :: r, m, hn, h => by
    simp only [List.map_cons, List.nodup_cons] at hn
    unfold fnd
    rw [List.find?_cons]
    rcases List.mem_cons.1 h with rfl | h
    · simp
    · have hne : ¬ y.who = m.who := fun e => hn.1 (by rw [e]; exact List.mem_map_of_mem h)
      have : (y.who == m.who) = false := by simpa using hne
      rw [this]
      exact fnd_of_mem hn.2 h
theorem upd_who (ms : List Mb) (m' : Mb) : (upd ms m').map Mb.who = ms.map Mb.who := by
  unfold upd
  rw [List.map_map]
  apply List.map_congr_left
  intro m _
  show (if m.who = m'.who then m' else m).who = m.who
  split
  · rename_i h; exact h.symm
  · rfl
theorem upd_length (ms : List Mb) (m' : Mb) : (upd ms m').length = ms.length := by simp [upd]
theorem fnd_upd : ∀ (ms : List Mb) (m' : Mb) (x : Int), fnd (upd ms m') x = if x = m'.who then (fnd ms x).map (fun _ => m') else fnd ms x
  | [], m', x => by simp [upd, fnd]
  | y :: r, m', x => by
    have ih := fnd_upd r m' x
    unfold fnd upd at ih ⊢
    rw [List.map_cons, List.find?_cons, List.find?_cons]
    by_cases hy : y.who = m'.who
    · rw [if_pos hy]
      by_cases hx : x = m'.who
      · subst hx
        have h1 : (m'.who == m'.who) = true := by simp
        have h2 : (y.who == m'.who) = true := by simpa using hy
        rw [h1, h2, if_pos rfl]; rfl
      · have h1 : (m'.who == x) = false := by simpa using fun e => hx e.symm
        have h2 : (y.who == x) = false := by rw [hy]; exact h1
        rw [h1, h2]
        rw [if_neg hx] at ih ⊢
        exact ih
    · rw [if_neg hy]
      by_cases hyx : y.who = x
      · have h2 : (y.who == x) = true := by simpa using hyx
        rw [h2]
        rw [if_neg (fun e => hy (by rw [hyx, e]))]
      · have h2 : (y.who == x) = false := by simpa using hyx
        rw [h2]
        exact ih
theorem mem_upd {ms : List Mb} {m' m : Mb} (h : m ∈ upd ms m') : m = m' ∨ m ∈ ms := by
  obtain ⟨y, hy, rfl⟩ := List.mem_map.1 h
  split
  · exact .inl rfl
  · exact .inr hy
theorem Sc.ok.upd {s : Sc} (h : s.ok) {m' : Mb} (hm : m'.ok) : Sc.ok ⟨Drr.upd s.ms m', s.act⟩ := by
  refine ⟨by show ((Drr.upd s.ms m').map Mb.who).Nodup; rw [upd_who]; exact h.apart, fun m hmm => (mem_upd hmm).elim (fun e => e ▸ hm) (h.each m), by show (Drr.upd s.ms m').length ≤ 8; rw [upd_length]; exact h.few, h.nodup, fun x hx => ?_⟩
  obtain ⟨m, hf⟩ := h.there x hx
  show ∃ m, fnd (Drr.upd s.ms m') x = some m
  rw [fnd_upd]
  split
  · exact ⟨m', by rw [hf]; rfl⟩
  · exact ⟨m, hf⟩
theorem nodup_le : ∀ {a b : List Int}, a.Nodup → (∀ x ∈ a, x ∈ b) → a.length ≤ b.length
  | [], b, _, _ => Nat.zero_le _
  | x :: r, b, hn, h => by
    simp only [List.nodup_cons] at hn
    have hx := h x (by simp)
    have ih := nodup_le (a := r) (b := b.erase x) hn.2 (fun y hy => (List.mem_erase_of_ne (fun e => hn.1 (by rw [← e]; exact hy))).2 (h y (by simp [hy])))
    rw [List.length_erase_of_mem hx] at ih
    have : 0 < b.length := List.length_pos_of_mem hx
    simp only [List.length_cons]
    omega
theorem Sc.ok.few_act {s : Sc} (h : s.ok) : s.act.length ≤ 8 := by
  have := nodup_le (a := s.act) (b := s.ms.map Mb.who) h.nodup (fun x hx => by
    obtain ⟨m, hf⟩ := h.there x hx
    rw [← fnd_who hf]
    exact List.mem_map_of_mem (fnd_mem hf))
  rw [List.length_map] at this
  exact Nat.le_trans this h.few

/-! What is done with it. -/
def Sc.setE (s : Sc) (who q : Int) : Int := if q = 0 ∨ 281474976710656 < q ∨ (fnd s.ms who = none ∧ 8 ≤ s.ms.length) then 201 else 0
def Sc.set (s : Sc) (who q : Int) : Sc :=
  if s.setE who q = 0 then
    match fnd s.ms who with
    | none => ⟨s.ms ++ [⟨who, q, 0, false⟩], s.act⟩
    | some m => if m.q = q then s else ⟨upd s.ms ⟨m.who, q, min m.df q, m.vis⟩, s.act⟩
  else s
def Sc.wakeE (s : Sc) (who : Int) : Int := if fnd s.ms who = none then 201 else 0
def Sc.wake (s : Sc) (who : Int) : Sc := if fnd s.ms who = none then s else if who ∈ s.act then s else ⟨s.ms, s.act ++ [who]⟩
/-- The first one, as it stands when it is asked for. -/
def Mb.visit (m : Mb) : Mb := if m.vis then m else ⟨m.who, m.q, min (m.df + m.q) 18446744073709551615, true⟩
def Sc.head (s : Sc) : Option Mb := match s.act with | [] => none | x :: _ => fnd s.ms x
def Sc.front (s : Sc) : Sc := match s.head with | none => s | some m => ⟨upd s.ms m.visit, s.act⟩
def Sc.fv (s : Sc) : Option Mb := match s.head with | none => none | some m => if m.vis then some m else none
def Sc.spendB (s : Sc) (n : Int) : Bool := match s.fv with | none => false | some m => decide (n ≤ m.df)
def Sc.spend (s : Sc) (n : Int) : Sc := match s.fv with | none => s | some m => if n ≤ m.df then ⟨upd s.ms ⟨m.who, m.q, m.df - n, m.vis⟩, s.act⟩ else s
def Sc.leaveB (s : Sc) : Bool := s.fv.isSome
def Sc.leave (s : Sc) (keeps stays : Bool) : Sc := match s.fv with
  | none => s
  | some m => ⟨upd s.ms ⟨m.who, m.q, if keeps then m.df else 0, false⟩, s.act.drop 1 ++ (if stays then [m.who] else [])⟩
theorem Mb.visit_ok {m : Mb} (h : m.ok) : m.visit.ok := by
  unfold Mb.visit
  have := h.q0; have := h.d0; have := h.d1
  split
  · exact h
  · exact ⟨h.wf, h.q0, h.q1, by show 0 ≤ min _ _; omega, by show min _ _ < _; omega⟩
theorem head_some {s : Sc} {m : Mb} (h : s.head = some m) : ∃ r, s.act = m.who :: r ∧ fnd s.ms m.who = some m := by
  unfold Sc.head at h
  split at h
  · cases h
  · rename_i x r hx
    have := fnd_who h
    subst this
    exact ⟨r, hx, h⟩
theorem head_none {s : Sc} (hs : s.ok) (h : s.head = none) : s.act = [] := by
  unfold Sc.head at h
  split at h
  · assumption
  · rename_i x r hx
    obtain ⟨m, hm⟩ := hs.there x (by rw [hx]; simp)
    rw [hm] at h; cases h
theorem fv_some {s : Sc} {m : Mb} (h : s.fv = some m) : s.head = some m ∧ m.vis = true := by
  unfold Sc.fv at h
  split at h
  · cases h
  · rename_i m' hm
    split at h
    · injection h with h; subst h; exact ⟨hm, by assumption⟩
    · cases h
theorem Sc.front_ok {s : Sc} (h : s.ok) : s.front.ok := by
  unfold Sc.front
  split
  · exact h
  · rename_i m hm
    exact h.upd (Mb.visit_ok (h.each m (fnd_mem (head_some hm).choose_spec.2)))
theorem Sc.set_ok {s : Sc} (h : s.ok) {who q : Int} (hw : (Lit.int .i64 who).wf = true) (hq : 0 ≤ q) : (s.set who q).ok := by
  unfold Sc.set
  split
  · rename_i he
    have hne : ¬ (q = 0 ∨ 281474976710656 < q ∨ (fnd s.ms who = none ∧ 8 ≤ s.ms.length)) := by
      intro hc; unfold Sc.setE at he; rw [if_pos hc] at he; exact absurd he (by decide)
    split
    · rename_i hf
      have hlen : s.ms.length < 8 := by
        apply Classical.byContradiction; intro hc; exact hne (.inr (.inr ⟨hf, by omega⟩))
      refine ⟨?_, fun m hm => ?_, by show (s.ms ++ [_]).length ≤ 8; rw [List.length_append]; simp only [List.length_cons, List.length_nil]; omega, h.nodup, fun x hx => ?_⟩
      · show ((s.ms ++ [_]).map Mb.who).Nodup
        rw [List.map_append, List.nodup_append]
        refine ⟨h.apart, by simp, fun a ha b hb => ?_⟩
        simp only [List.map_cons, List.map_nil, List.mem_singleton] at hb
        subst hb
        obtain ⟨m, hm, rfl⟩ := List.mem_map.1 ha
        exact fnd_none.1 hf m hm
      · rcases List.mem_append.1 hm with hm | hm
        · exact h.each m hm
        · rw [List.mem_singleton.1 hm]
          exact ⟨hw, by show 0 < q; omega, by show q ≤ _; omega, Int.le_refl _, by show (0 : Int) < _; decide⟩
      · obtain ⟨m, hm⟩ := h.there x hx
        exact ⟨m, by show fnd (s.ms ++ [_]) x = _; unfold fnd at hm ⊢; rw [List.find?_append, hm]; rfl⟩
    · rename_i m hf
      split
      · exact h
      · have hm := h.each m (fnd_mem hf)
        have := hm.d0; have := hm.d1
        exact h.upd (m' := ⟨m.who, q, min m.df q, m.vis⟩) ⟨hm.wf, by show 0 < q; omega, by show q ≤ _; omega, by show 0 ≤ min _ _; omega, by show min _ _ < _; omega⟩
  · exact h
theorem Sc.wake_ok {s : Sc} (h : s.ok) (who : Int) : (s.wake who).ok := by
  unfold Sc.wake
  split
  · exact h
  · rename_i hf
    split
    · exact h
    · rename_i hm
      refine ⟨h.apart, h.each, h.few, ?_, fun x hx => ?_⟩
      · show (s.act ++ [who]).Nodup
        rw [List.nodup_append]
        refine ⟨h.nodup, by simp, fun a ha b hb => ?_⟩
        rw [List.mem_singleton.1 hb]
        exact fun e => hm (e ▸ ha)
      · rcases List.mem_append.1 hx with hx | hx
        · exact h.there x hx
        · rw [List.mem_singleton.1 hx]
          cases hh : fnd s.ms who with
          | none => exact absurd hh hf
          | some m => exact ⟨m, rfl⟩
theorem Sc.spend_ok {s : Sc} (h : s.ok) {n : Int} (hn : 0 ≤ n) : (s.spend n).ok := by
  unfold Sc.spend
  split
  · exact h
  · rename_i m hm
    split
    · have hm := h.each m (fnd_mem (head_some (fv_some hm).1).choose_spec.2)
      have := hm.d0; have := hm.d1
      exact h.upd (m' := ⟨m.who, m.q, m.df - n, m.vis⟩) ⟨hm.wf, hm.q0, hm.q1, by show 0 ≤ m.df - n; omega, by show m.df - n < _; omega⟩
    · exact h
theorem Sc.leave_ok {s : Sc} (h : s.ok) (keeps stays : Bool) : (s.leave keeps stays).ok := by
  unfold Sc.leave
  split
  · exact h
  · rename_i m hf
    obtain ⟨r, hr, hfm⟩ := head_some (fv_some hf).1
    have hm := h.each m (fnd_mem hfm)
    have hu := h.upd (m' := ⟨m.who, m.q, if keeps then m.df else 0, false⟩) ⟨hm.wf, hm.q0, hm.q1, by show 0 ≤ (if keeps = true then m.df else 0); split; exact hm.d0; exact Int.le_refl _, by show (if keeps = true then m.df else 0) < _; split; exact hm.d1; decide⟩
    have hn := h.nodup
    rw [hr, List.nodup_cons] at hn
    rw [hr, List.drop_succ_cons, List.drop_zero]
    have hmem : ∀ x ∈ r ++ (if stays = true then [m.who] else []), x ∈ s.act := by
      intro x hx
      rw [hr]
      rcases List.mem_append.1 hx with hx | hx
      · simp [hx]
      · split at hx
        · rw [List.mem_singleton.1 hx]; simp
        · cases hx
    refine ⟨hu.apart, hu.each, hu.few, ?_, fun x hx => hu.there x (hmem x hx)⟩
    show (r ++ (if stays = true then [m.who] else [])).Nodup
    rw [List.nodup_append]
    refine ⟨hn.2, by split <;> simp, fun a ha b hb => ?_⟩
    split at hb
    · rw [List.mem_singleton.1 hb]; exact fun e => hn.1 (e ▸ ha)
    · cases hb
end Go.Proofs.Ytliepgmjpbjhfaa.Drr
