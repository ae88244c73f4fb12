/- The plain law of WalEpoch. No program in sight. -/
import Derived.Test.YtogkibikghbghaaFgWalLive
set_option linter.unusedVariables false
set_option linter.unusedSimpArgs false
namespace Go.Proofs.Ytogkibikghbghaa.Wal
open Go.RowKit Go.Proofs.Ytogkibikghbghaa.Fg Go.Proofs.Ytogkibikghbghaa.Frame Go.Proofs.Ytogkibikghbghaa.Disk Go.Proofs.Ytogkibikghbghaa.Area

/-- What lies at a segment's head: nothing, or a record of some epoch. -/
def HeadIs (d : Dk) (ep : Int) (k : Int) (upto : Int) : Prop :=
  d.read (segV d.st.length k) = noSec ∨ ∃ r : Rec, r.ok ∧ r.good ∧ r.epoch = ep ∧ (r.many : Int) ≤ upto ∧ ∀ i : Nat, i < r.many → d.read (segV d.st.length k + i) = r.made.getD i noSec
/-- The invariant of a log that only appends. -/
structure Heads (l : Lg) (d : Dk) : Prop where
  live : Live d
  ok : l.ok d.st.length
  at_ : ∀ k, okB d.st.length k = true → HeadIs d l.epoch k (if k = l.seg then l.taken else 16)
theorem segV_eq {N k : Int} (h : okB N k = true) : segV N k = 32 + k * 16 ∧ 0 ≤ k ∧ 32 + k * 16 + 16 ≤ N := by
  obtain ⟨h1, h2, h3, h4, h5⟩ := okB_in h
  exact ⟨by rw [segV, if_pos h], h3, by omega⟩
theorem HeadIs.mono {d : Dk} {ep k a b : Int} (h : HeadIs d ep k a) (hab : a ≤ b) : HeadIs d ep k b := by
  rcases h with h | ⟨r, h1, h2, h3, h4, h5⟩
  · exact Or.inl h
  · exact Or.inr ⟨r, h1, h2, h3, Int.le_trans h4 hab, h5⟩
theorem HeadIs.same {d d' : Dk} {ep k a : Int} (h : HeadIs d ep k a) (hst : d'.st.length = d.st.length) (h0 : d'.read (segV d.st.length k) = d.read (segV d.st.length k))
    (hr : ∀ i : Nat, (i : Int) < a → d'.read (segV d.st.length k + i) = d.read (segV d.st.length k + i)) : HeadIs d' ep k a := by
  unfold HeadIs
  rw [hst]
  rcases h with h | ⟨r, h1, h2, h3, h4, h5⟩
  · exact Or.inl (h0.trans h)
  · exact Or.inr ⟨r, h1, h2, h3, h4, fun i hi => (hr i (by omega)).trans (h5 i hi)⟩
theorem rcd_many {l : Lg} {p : List Int} (hp : p.length ≤ 700) : (l.rcd p).made.length = (l.rcd p).many ∧ 0 < (l.rcd p).many ∧ (l.rcd p).many ≤ 12 := by
  refine ⟨Rec.made_length (rcd_good hp), ?_, ?_⟩
  · rw [Rec.many_of (r := l.rcd p) hp]; omega
  · rw [Rec.many_of (r := l.rcd p) hp]; show (p.length + 81) / 64 ≤ 12; omega
/-- An append to a disk that loses no power. -/
theorem Heads.done {l : Lg} {d : Dk} (hv : Live d) (ho : l.ok d.st.length) {p : List Int} (hp : p.length ≤ 700) (hk : l.placeOk d.st.length (l.rcd p).many = true) :
    l.appE d p = 0 ∧ Live (l.appD d p) ∧ ∀ j, (l.appD d p).read j = if l.at_ d.st.length (l.rcd p).many ≤ j ∧ j < l.at_ d.st.length (l.rcd p).many + (l.rcd p).many then (l.rcd p).made.getD (j - l.at_ d.st.length (l.rcd p).many).toNat noSec else d.read j := by
  obtain ⟨m1, m2, m3⟩ := rcd_many (l := l) hp
  obtain ⟨p1, p2, p3⟩ := place_range ho (many := (l.rcd p).many) (by omega)
  obtain ⟨s1, s2, s3⟩ := segV_eq p1
  have hat : l.at_ d.st.length (l.rcd p).many = 32 + l.placeSeg d.st.length (l.rcd p).many * 16 + l.placeAt (l.rcd p).many := by rw [Lg.at_, s1]
  have := Live.all (l.rcd p).made d (l.at_ d.st.length (l.rcd p).many) hv (by omega) (by rw [m1]; omega)
  rw [m1] at this
  unfold Lg.appE Lg.appD
  rw [if_neg (by omega), if_pos hk, if_neg (by omega), if_pos hk]
  exact this
theorem app_same {l : Lg} {d : Dk} {p : List Int} (h : ¬ (p.length ≤ 700 ∧ l.placeOk d.st.length (l.rcd p).many = true)) : l.appL d p = l ∧ l.appD d p = d ∧ l.appE d p ≠ 0 := by
  have he : l.appE d p = if 700 < p.length then 81 else 101 := by
    unfold Lg.appE
    split
    · rfl
    · rw [if_neg (fun hk => h ⟨by omega, hk⟩)]
  have he' : l.appE d p ≠ 0 := by rw [he]; split <;> decide
  refine ⟨by rw [Lg.appL, if_neg he'], ?_, he'⟩
  unfold Lg.appD
  split
  · rfl
  · rw [if_neg (fun hk => h ⟨by omega, hk⟩)]
theorem Heads.app {l : Lg} {d : Dk} (h : Heads l d) {p : List Int} (hs : Crc.Small p) : Heads (l.appL d p) (l.appD d p) := by
  by_cases hg : p.length ≤ 700 ∧ l.placeOk d.st.length (l.rcd p).many = true
  · obtain ⟨hp, hk⟩ := hg
    obtain ⟨a1, a2, a3⟩ := Heads.done h.live h.ok hp hk
    obtain ⟨m1, m2, m3⟩ := rcd_many (l := l) hp
    obtain ⟨p1, p2, p3⟩ := place_range h.ok (many := (l.rcd p).many) (by omega)
    obtain ⟨s1, s2, s3⟩ := segV_eq p1
    have hat : l.at_ d.st.length (l.rcd p).many = 32 + l.placeSeg d.st.length (l.rcd p).many * 16 + l.placeAt (l.rcd p).many := by rw [Lg.at_, s1]
    have hst := appD_st l d p
    have hlo := appL_ok h.ok p
    have hL : l.appL d p = ⟨l.epoch, (l.next + 1) % 18446744073709551616, l.start, l.placeSeg d.st.length (l.rcd p).many, l.placeAt (l.rcd p).many + (l.rcd p).many⟩ := by rw [Lg.appL, if_pos a1]
    have t0 := h.ok.t0
    refine ⟨a2, by rw [hst]; exact hlo, fun k hkk => ?_⟩
    rw [hst] at hkk
    obtain ⟨k1, k2, k3⟩ := segV_eq hkk
    have old := h.at_ k hkk
    rw [hL]
    show HeadIs _ l.epoch k (if k = l.placeSeg d.st.length (l.rcd p).many then l.placeAt (l.rcd p).many + (l.rcd p).many else 16)
    by_cases hkp : k = l.placeSeg d.st.length (l.rcd p).many
    · subst hkp
      rw [if_pos rfl]
      by_cases h0 : l.placeAt (l.rcd p).many = 0
      · refine Or.inr ⟨l.rcd p, rcd_ok h.ok hs, rcd_good hp, rfl, by omega, fun i hi => ?_⟩
        rw [hst, a3, s1, if_pos (by omega)]
        congr 1
        omega
      · have hc : l.taken + (l.rcd p).many ≤ 16 := by
          apply Classical.byContradiction
          intro hc
          exact h0 (by rw [Lg.placeAt, if_neg hc])
        have e1 : l.placeSeg d.st.length (l.rcd p).many = l.seg := by rw [Lg.placeSeg, if_pos hc]
        have e2 : l.placeAt (l.rcd p).many = l.taken := by rw [Lg.placeAt, if_pos hc]
        rw [e1, if_pos rfl] at old
        rw [e1] at s1 hat ⊢
        rw [e2] at hat h0 ⊢
        refine (HeadIs.same old (by rw [hst]) ?_ ?_).mono (by omega)
        · rw [a3, if_neg (by omega)]
        · intro i hi
          rw [a3, if_neg (by omega)]
    · rw [if_neg hkp]
      refine (HeadIs.same (d' := l.appD d p) (old.mono (b := 16) ?_) (by rw [hst]) ?_ ?_)
      · split
        · exact h.ok.t1
        · exact Int.le_refl _
      · rw [a3, if_neg (by omega)]
      · intro i hi
        rw [a3, if_neg (by omega)]
  · obtain ⟨e1, e2, -⟩ := app_same hg
    rw [e1, e2]
    exact h

/-- Sectors that begin with an empty one are no record. -/
theorem noSec_no (more : List (List Int)) : ¬ isRec (noSec :: more) := fun h => by
  refine h.2.2.2.1 ?_
  show val (((noSec :: more).flatten.drop 2).take 8) = 0
  rw [List.flatten_cons, List.drop_append_of_le_length (by decide), List.take_append_of_le_length (by decide)]
  decide
theorem readSecs_head {d : Dk} {k : Int} : ∃ more, readSecs d k 0 = d.read (segV d.st.length k) :: more := by
  have e : readSecs d k 0 = (0 :: (List.range 15).map Nat.succ).map fun (i : Nat) => d.read (segV d.st.length k + (0 + (i : Int))) := by
    unfold readSecs
    rw [show ((16 : Int) - 0).toNat = 15 + 1 from rfl, List.range_succ_eq_map]
  rw [e, List.map_cons]
  have e2 : segV d.st.length k + (0 + ((0 : Nat) : Int)) = segV d.st.length k := by omega
  rw [e2]
  exact ⟨_, rfl⟩
theorem readSecs_made {d : Dk} {k at_ : Int} {r : Rec} (hg : r.good) (hm : (r.many : Int) ≤ 16 - at_) (hr : ∀ i : Nat, i < r.many → d.read (segV d.st.length k + (at_ + i)) = r.made.getD i noSec) :
    ∃ more, readSecs d k at_ = r.made ++ more := by
  refine ⟨(readSecs d k at_).drop r.many, ?_⟩
  have hl := Rec.made_length hg
  have ht : (readSecs d k at_).take r.many = r.made := by
    apply List.ext_getElem?
    intro i
    by_cases hi : i < r.many
    · rw [List.getElem?_take_of_lt hi]
      have e : r.made[i]? = some (r.made.getD i noSec) := by
        rw [List.getElem?_eq_getElem (by omega), List.getD_eq_getElem?_getD, List.getElem?_eq_getElem (by omega)]; rfl
      rw [e, readSecs, List.getElem?_map, List.getElem?_range (by omega), Option.map_some, hr i hi]
    · rw [List.getElem?_eq_none (by rw [List.length_take]; omega), List.getElem?_eq_none (by omega)]
  conv => rhs; lhs; rw [← ht]
  exact (List.take_append_drop _ _).symm
theorem HeadIs.none {d : Dk} {ep k a : Int} (h : HeadIs d ep k a) (ha : a ≤ 16) {l : Lg} (he : l.epoch ≠ ep) : ¬ l.opens d k 0 := by
  rcases h with h | ⟨r, h1, h2, h3, h4, h5⟩
  · obtain ⟨more, hm⟩ := readSecs_head (d := d) (k := k)
    rw [h] at hm
    intro ho
    rw [Lg.opens, hm] at ho
    exact noSec_no more ho.1
  · obtain ⟨more, hm⟩ := readSecs_made (d := d) (k := k) (at_ := 0) h2 (by omega) (fun i hi => by rw [Int.zero_add]; exact h5 i hi)
    intro ho
    rw [Lg.opens, hm, (made_opens h1 h2 more).2.1, h3] at ho
    exact he ho.2.2.symm
theorem openN_zero {l : Lg} {d : Dk} {seg at_ : Int} (h : ¬ l.opens d seg at_) : l.openN d seg at_ = 0 := by rw [Lg.openN, if_neg h]
/-- Another epoch finds nothing. -/
theorem Heads.other {l : Lg} {d : Dk} (h : Heads l d) {e seq seg : Int} (hs : okB d.st.length seg = true) (he : e ≠ l.epoch) : scanAll d e seq seg = ([], Lg.new e seq seg) := by
  have hn : ∀ k, okB d.st.length k = true → ∀ l' : Lg, l'.epoch = e → l'.openN d k 0 = 0 := fun k hk l' hl' =>
    openN_zero ((h.at_ k hk).none (by split; exact h.ok.t1; exact Int.le_refl _) (by rw [hl']; exact he))
  refine scanF_stop _ (Or.inr ?_)
  unfold Lg.step
  have e1 : (Lg.new e seq seg).openN d (Lg.new e seq seg).seg (Lg.new e seq seg).taken = 0 := hn seg hs _ rfl
  have e2 : (Lg.new e seq seg).openN d (nextV d.st.length (Lg.new e seq seg).seg) 0 = 0 := hn _ (nextV_ok hs) _ rfl
  rw [e1, e2, if_neg (by omega), if_pos rfl]
  split <;> rfl
theorem step_is {l l' : Lg} {d : Dk} {r : Rec} (h : l.step d = some (r, l')) : r.seq = l.next ∧ r.epoch = l.epoch ∧ l'.next = l.next ∧ l'.epoch = l.epoch := by
  have key : ∀ a b, l.openN d a b ≠ 0 → (l.openR d a b).seq = l.next ∧ (l.openR d a b).epoch = l.epoch := fun a b hab => by
    have ho : l.opens d a b := Classical.byContradiction fun hc => hab (openN_zero hc)
    rw [Lg.openR, if_pos ho]
    exact ⟨ho.2.1, ho.2.2⟩
  unfold Lg.step at h
  split at h
  · rename_i hp
    injection h with h
    injection h with h1 h2
    subst h1 h2
    exact ⟨(key _ _ (by omega)).1, (key _ _ (by omega)).2, rfl, rfl⟩
  · split at h
    · cases h
    · split at h
      · cases h
      · rename_i hz
        injection h with h
        injection h with h1 h2
        subst h1 h2
        exact ⟨(key _ _ hz).1, (key _ _ hz).2, rfl, rfl⟩
theorem scanF_seq : ∀ (k : Nat) (l : Lg) (d : Dk) (i : Nat) (x : Rec), 0 ≤ l.next → l.next < 18446744073709551616 → (scanF k l d).1[i]? = some x → x.epoch = l.epoch ∧ x.seq = (l.next + i) % 18446744073709551616
  | 0, l, d, i, x, _, _, h => by simp [scanF] at h
  | k + 1, l, d, i, x, h0, h1, h => by
    rw [scanF] at h
    split at h
    · simp at h
    · split at h
      · simp at h
      · rename_i r l' hs
        obtain ⟨s1, s2, s3, s4⟩ := step_is hs
        cases i with
        | zero =>
          simp only [List.getElem?_cons_zero, Option.some.injEq] at h
          subst h
          exact ⟨s2, by rw [s1]; omega⟩
        | succ i =>
          simp only [List.getElem?_cons_succ] at h
          have ih := scanF_seq k l'.succ d i x (by show 0 ≤ (l'.next + 1) % _; omega) (by show (l'.next + 1) % _ < _; omega) h
          refine ⟨ih.1.trans s4, ?_⟩
          rw [ih.2]
          show ((l'.next + 1) % _ + (i : Int)) % _ = _
          rw [s3]
          omega
theorem Heads.new {d : Dk} (hv : Live d) {e seq seg : Int} (hl : (Lg.new e seq seg).ok d.st.length) (hr : ∀ j, d.read j = noSec) : Heads (Lg.new e seq seg) d :=
  ⟨hv, hl, fun k _ => Or.inl (hr _)⟩
end Go.Proofs.Ytogkibikghbghaa.Wal
