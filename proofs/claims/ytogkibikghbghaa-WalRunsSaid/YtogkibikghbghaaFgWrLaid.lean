/- Records that lie one behind the other in a log, and what a scan finds of them. No program in sight. -/
import Derived.Test.YtogkibikghbghaaFgWalAlive
import Derived.Test.YtogkibikghbghaaFgWalPay
import Derived.ChangeSlices
set_option linter.unusedVariables false
set_option linter.unusedSimpArgs false
namespace Go.Proofs.Ytogkibikghbghaa.Wal
open Go.RowKit Go.Proofs.Ytogkibikghbghaa.Fg Go.Proofs.Ytogkibikghbghaa.Frame Go.Proofs.Ytogkibikghbghaa.Disk Go.Proofs.Ytogkibikghbghaa.Area

/-- A disk that will not lose power. -/
structure Live (d : Dk) : Prop where
  up : d.down = false
  left : d.left = -1
theorem Live.actE {d : Dk} (h : Live d) : d.actE = 0 := by simp [Dk.actE, h.up, h.left]
theorem Live.act {d : Dk} (h : Live d) : d.act = d := by simp [Dk.act, h.up, h.left]
theorem Live.put {d : Dk} (h : Live d) {i : Int} (hi : d.there i = true) (s : List Int) : d.put i s = { d with pd := d.pd ++ [(i.toNat, s)] } := by
  rw [Dk.put, if_pos hi, if_pos h.actE, h.act]
theorem Live.putE {d : Dk} (h : Live d) {i : Int} (hi : d.there i = true) : d.putE i = 0 := by rw [Dk.putE, if_pos hi]; exact h.actE
theorem Live.live {d : Dk} (h : Live d) (i : Int) (s : List Int) : Live (d.put i s) := by
  by_cases hi : d.there i = true
  · rw [h.put hi]; exact ⟨h.up, h.left⟩
  · rw [Dk.put, if_neg hi]; exact h
theorem Live.read {d : Dk} (h : Live d) {i : Int} (hi : d.there i = true) (s : List Int) (j : Int) : (d.put i s).read j = if j = i then s else d.read j := by
  have h0 : 0 ≤ i ∧ i < (d.st.length : Int) := by simpa [Dk.there] using hi
  rw [h.put hi]
  unfold Dk.read
  have ht : Dk.there { d with pd := d.pd ++ [(i.toNat, s)] } j = d.there j := rfl
  rw [ht]
  by_cases hj : d.there j = true
  · rw [if_pos hj, if_pos hj, Dk.last_snoc]
    by_cases e : j = i
    · rw [if_pos e, if_pos (by show ((i.toNat : Nat) : Int) = j; omega)]
    · rw [if_neg e, if_neg (by show ¬ ((i.toNat : Nat) : Int) = j; omega)]
  · have hne : ¬ j = i := fun e => hj (by rw [e]; exact hi)
    rw [if_neg hj, if_neg hj, if_neg hne]
theorem Live.all : ∀ (r : List (List Int)) (d : Dk) (i : Int), Live d → 0 ≤ i → i + r.length ≤ d.st.length →
    putAllE d i r = 0 ∧ Live (putAll d i r) ∧ ∀ j, (putAll d i r).read j = if i ≤ j ∧ j < i + r.length then r.getD (j - i).toNat noSec else d.read j
  | [], d, i, h, h0, h1 => ⟨rfl, h, fun j => by rw [if_neg (by simp only [List.length_nil]; omega)]; rfl⟩
  | s :: r, d, i, h, h0, h1 => by
    have hi : d.there i = true := by
      simp only [List.length_cons] at h1
      simp only [Dk.there, Bool.and_eq_true, decide_eq_true_eq]; omega
    have hst : (d.put i s).st = d.st := put_st d i s
    obtain ⟨a1, a2, a3⟩ := Live.all r (d.put i s) (i + 1) (h.live i s) (by omega) (by rw [hst]; simp only [List.length_cons] at h1; omega)
    rw [putAll, putAllE, if_pos (h.putE hi), if_pos (h.putE hi)]
    refine ⟨a1, a2, fun j => ?_⟩
    rw [a3 j, h.read hi]
    simp only [List.length_cons]
    by_cases e : j = i
    · subst e
      rw [if_neg (by omega), if_pos rfl, if_pos (by omega), Int.sub_self]
      rfl
    · rw [if_neg e]
      by_cases hj : i + 1 ≤ j ∧ j < i + 1 + r.length
      · rw [if_pos hj, if_pos (by omega), show (j - i).toNat = (j - (i + 1)).toNat + 1 by omega]
        rfl
      · rw [if_neg hj, if_neg (by omega)]
end Go.Proofs.Ytogkibikghbghaa.Wal

namespace Go.Proofs.Ytogkibikghbghaa.Wal
open Go.RowKit Go.Proofs.Ytogkibikghbghaa.Fg Go.Proofs.Ytogkibikghbghaa.Frame Go.Proofs.Ytogkibikghbghaa.Disk Go.Proofs.Ytogkibikghbghaa.Area

/-- What lies at a segment's head: nothing, or a record of some epoch. -/
def HeadIs (d : Dk) (ep : Int) (k : Int) (upto : Int) : Prop :=
  d.read (segV d.st.length k) = noSec ∨ ∃ r : Rec, r.ok ∧ r.good ∧ r.epoch = ep ∧ (r.many : Int) ≤ upto ∧ ∀ i : Nat, i < r.many → d.read (segV d.st.length k + i) = r.made.getD i noSec
/-- The invariant of a log that only appends. -/
structure Heads (l : Lg) (d : Dk) : Prop where
  live : Live d
  ok : l.ok d.st.length
  at_ : ∀ k, okB d.st.length k = true → HeadIs d l.epoch k (if k = l.seg then l.taken else 16)
theorem segV_eq {N k : Int} (h : okB N k = true) : segV N k = 32 + k * 16 ∧ 0 ≤ k ∧ 32 + k * 16 + 16 ≤ N := by
  obtain ⟨h1, h2, h3, h4, h5⟩ := okB_in h
  exact ⟨by rw [segV, if_pos h], h3, by omega⟩
theorem HeadIs.mono {d : Dk} {ep k a b : Int} (h : HeadIs d ep k a) (hab : a ≤ b) : HeadIs d ep k b := by
  rcases h with h | ⟨r, h1, h2, h3, h4, h5⟩
  · exact Or.inl h
  · exact Or.inr ⟨r, h1, h2, h3, Int.le_trans h4 hab, h5⟩
theorem HeadIs.same {d d' : Dk} {ep k a : Int} (h : HeadIs d ep k a) (hst : d'.st.length = d.st.length) (h0 : d'.read (segV d.st.length k) = d.read (segV d.st.length k))
    (hr : ∀ i : Nat, (i : Int) < a → d'.read (segV d.st.length k + i) = d.read (segV d.st.length k + i)) : HeadIs d' ep k a := by
  unfold HeadIs
  rw [hst]
  rcases h with h | ⟨r, h1, h2, h3, h4, h5⟩
  · exact Or.inl (h0.trans h)
  · exact Or.inr ⟨r, h1, h2, h3, h4, fun i hi => (hr i (by omega)).trans (h5 i hi)⟩
theorem rcd_many {l : Lg} {p : List Int} (hp : p.length ≤ 700) : (l.rcd p).made.length = (l.rcd p).many ∧ 0 < (l.rcd p).many ∧ (l.rcd p).many ≤ 12 := by
  refine ⟨Rec.made_length (rcd_good hp), ?_, ?_⟩
  · rw [Rec.many_of (r := l.rcd p) hp]; omega
  · rw [Rec.many_of (r := l.rcd p) hp]; show (p.length + 81) / 64 ≤ 12; omega
/-- An append to a disk that loses no power. -/
theorem Heads.done {l : Lg} {d : Dk} (hv : Live d) (ho : l.ok d.st.length) {p : List Int} (hp : p.length ≤ 700) (hk : l.placeOk d.st.length (l.rcd p).many = true) :
    l.appE d p = 0 ∧ Live (l.appD d p) ∧ ∀ j, (l.appD d p).read j = if l.at_ d.st.length (l.rcd p).many ≤ j ∧ j < l.at_ d.st.length (l.rcd p).many + (l.rcd p).many then (l.rcd p).made.getD (j - l.at_ d.st.length (l.rcd p).many).toNat noSec else d.read j := by
  obtain ⟨m1, m2, m3⟩ := rcd_many (l := l) hp
  obtain ⟨p1, p2, p3⟩ := place_range ho (many := (l.rcd p).many) (by omega)
  obtain ⟨s1, s2, s3⟩ := segV_eq p1
  have hat : l.at_ d.st.length (l.rcd p).many = 32 + l.placeSeg d.st.length (l.rcd p).many * 16 + l.placeAt (l.rcd p).many := by rw [Lg.at_, s1]
  have := Live.all (l.rcd p).made d (l.at_ d.st.length (l.rcd p).many) hv (by omega) (by rw [m1]; omega)
  rw [m1] at this
  unfold Lg.appE Lg.appD
  rw [if_neg (by omega), if_pos hk, if_neg (by omega), if_pos hk]
  exact this
theorem app_same {l : Lg} {d : Dk} {p : List Int} (h : ¬ (p.length ≤ 700 ∧ l.placeOk d.st.length (l.rcd p).many = true)) : l.appL d p = l ∧ l.appD d p = d ∧ l.appE d p ≠ 0 := by
  have he : l.appE d p = if 700 < p.length then 81 else 101 := by
    unfold Lg.appE
    split
    · rfl
    · rw [if_neg (fun hk => h ⟨by omega, hk⟩)]
  have he' : l.appE d p ≠ 0 := by rw [he]; split <;> decide
  refine ⟨by rw [Lg.appL, if_neg he'], ?_, he'⟩
  unfold Lg.appD
  split
  · rfl
  · rw [if_neg (fun hk => h ⟨by omega, hk⟩)]
theorem Heads.app {l : Lg} {d : Dk} (h : Heads l d) {p : List Int} (hs : Crc.Small p) : Heads (l.appL d p) (l.appD d p) := by
  by_cases hg : p.length ≤ 700 ∧ l.placeOk d.st.length (l.rcd p).many = true
  · obtain ⟨hp, hk⟩ := hg
    obtain ⟨a1, a2, a3⟩ := Heads.done h.live h.ok hp hk
    obtain ⟨m1, m2, m3⟩ := rcd_many (l := l) hp
    obtain ⟨p1, p2, p3⟩ := place_range h.ok (many := (l.rcd p).many) (by omega)
    obtain ⟨s1, s2, s3⟩ := segV_eq p1
    have hat : l.at_ d.st.length (l.rcd p).many = 32 + l.placeSeg d.st.length (l.rcd p).many * 16 + l.placeAt (l.rcd p).many := by rw [Lg.at_, s1]
    have hst := appD_st l d p
    have hlo := appL_ok h.ok p
    have hL : l.appL d p = ⟨l.epoch, (l.next + 1) % 18446744073709551616, l.start, l.placeSeg d.st.length (l.rcd p).many, l.placeAt (l.rcd p).many + (l.rcd p).many⟩ := by rw [Lg.appL, if_pos a1]
    have t0 := h.ok.t0
    refine ⟨a2, by rw [hst]; exact hlo, fun k hkk => ?_⟩
    rw [hst] at hkk
    obtain ⟨k1, k2, k3⟩ := segV_eq hkk
    have old := h.at_ k hkk
    rw [hL]
    show HeadIs _ l.epoch k (if k = l.placeSeg d.st.length (l.rcd p).many then l.placeAt (l.rcd p).many + (l.rcd p).many else 16)
    by_cases hkp : k = l.placeSeg d.st.length (l.rcd p).many
    · subst hkp
      rw [if_pos rfl]
      by_cases h0 : l.placeAt (l.rcd p).many = 0
      · refine Or.inr ⟨l.rcd p, rcd_ok h.ok hs, rcd_good hp, rfl, by omega, fun i hi => ?_⟩
        rw [hst, a3, s1, if_pos (by omega)]
        congr 1
        omega
      · have hc : l.taken + (l.rcd p).many ≤ 16 := by
          apply Classical.byContradiction
          intro hc
          exact h0 (by rw [Lg.placeAt, if_neg hc])
        have e1 : l.placeSeg d.st.length (l.rcd p).many = l.seg := by rw [Lg.placeSeg, if_pos hc]
        have e2 : l.placeAt (l.rcd p).many = l.taken := by rw [Lg.placeAt, if_pos hc]
        rw [e1, if_pos rfl] at old
        rw [e1] at s1 hat ⊢
        rw [e2] at hat h0 ⊢
        refine (HeadIs.same old (by rw [hst]) ?_ ?_).mono (by omega)
        · rw [a3, if_neg (by omega)]
        · intro i hi
          rw [a3, if_neg (by omega)]
    · rw [if_neg hkp]
      refine (HeadIs.same (d' := l.appD d p) (old.mono (b := 16) ?_) (by rw [hst]) ?_ ?_)
      · split
        · exact h.ok.t1
        · exact Int.le_refl _
      · rw [a3, if_neg (by omega)]
      · intro i hi
        rw [a3, if_neg (by omega)]
  · obtain ⟨e1, e2, -⟩ := app_same hg
    rw [e1, e2]
    exact h

/-- Sectors that begin with an empty one are no record. -/
theorem noSec_no (more : List (List Int)) : ¬ isRec (noSec :: more) := fun h => by
  refine h.2.2.2.1 ?_
  show val (((noSec :: more).flatten.drop 2).take 8) = 0
  rw [List.flatten_cons, List.drop_append_of_le_length (by decide), List.take_append_of_le_length (by decide)]
  decide
theorem readSecs_head {d : Dk} {k : Int} : ∃ more, readSecs d k 0 = d.read (segV d.st.length k) :: more := by
  have e : readSecs d k 0 = (0 :: (List.range 15).map Nat.succ).map fun (i : Nat) => d.read (segV d.st.length k + (0 + (i : Int))) := by
    unfold readSecs
    rw [show ((16 : Int) - 0).toNat = 15 + 1 from rfl, List.range_succ_eq_map]
  rw [e, List.map_cons]
  have e2 : segV d.st.length k + (0 + ((0 : Nat) : Int)) = segV d.st.length k := by omega
  rw [e2]
  exact ⟨_, rfl⟩
theorem readSecs_made {d : Dk} {k at_ : Int} {r : Rec} (hg : r.good) (hm : (r.many : Int) ≤ 16 - at_) (hr : ∀ i : Nat, i < r.many → d.read (segV d.st.length k + (at_ + i)) = r.made.getD i noSec) :
    ∃ more, readSecs d k at_ = r.made ++ more := by
  refine ⟨(readSecs d k at_).drop r.many, ?_⟩
  have hl := Rec.made_length hg
  have ht : (readSecs d k at_).take r.many = r.made := by
    apply List.ext_getElem?
    intro i
    by_cases hi : i < r.many
    · rw [List.getElem?_take_of_lt hi]
      have e : r.made[i]? = some (r.made.getD i noSec) := by
        rw [List.getElem?_eq_getElem (by omega), List.getD_eq_getElem?_getD, List.getElem?_eq_getElem (by omega)]; rfl
      rw [e, readSecs, List.getElem?_map, List.getElem?_range (by omega), Option.map_some, hr i hi]
    · rw [List.getElem?_eq_none (by rw [List.length_take]; omega), List.getElem?_eq_none (by omega)]
  conv => rhs; lhs; rw [← ht]
  exact (List.take_append_drop _ _).symm
theorem HeadIs.none {d : Dk} {ep k a : Int} (h : HeadIs d ep k a) (ha : a ≤ 16) {l : Lg} (he : l.epoch ≠ ep) : ¬ l.opens d k 0 := by
  rcases h with h | ⟨r, h1, h2, h3, h4, h5⟩
  · obtain ⟨more, hm⟩ := readSecs_head (d := d) (k := k)
    rw [h] at hm
    intro ho
    rw [Lg.opens, hm] at ho
    exact noSec_no more ho.1
  · obtain ⟨more, hm⟩ := readSecs_made (d := d) (k := k) (at_ := 0) h2 (by omega) (fun i hi => by rw [Int.zero_add]; exact h5 i hi)
    intro ho
    rw [Lg.opens, hm, (made_opens h1 h2 more).2.1, h3] at ho
    exact he ho.2.2.symm
theorem openN_zero {l : Lg} {d : Dk} {seg at_ : Int} (h : ¬ l.opens d seg at_) : l.openN d seg at_ = 0 := by rw [Lg.openN, if_neg h]
/-- Another epoch finds nothing. -/
theorem Heads.other {l : Lg} {d : Dk} (h : Heads l d) {e seq seg : Int} (hs : okB d.st.length seg = true) (he : e ≠ l.epoch) : scanAll d e seq seg = ([], Lg.new e seq seg) := by
  have hn : ∀ k, okB d.st.length k = true → ∀ l' : Lg, l'.epoch = e → l'.openN d k 0 = 0 := fun k hk l' hl' =>
    openN_zero ((h.at_ k hk).none (by split; exact h.ok.t1; exact Int.le_refl _) (by rw [hl']; exact he))
  refine scanF_stop _ (Or.inr ?_)
  unfold Lg.step
  have e1 : (Lg.new e seq seg).openN d (Lg.new e seq seg).seg (Lg.new e seq seg).taken = 0 := hn seg hs _ rfl
  have e2 : (Lg.new e seq seg).openN d (nextV d.st.length (Lg.new e seq seg).seg) 0 = 0 := hn _ (nextV_ok hs) _ rfl
  rw [e1, e2, if_neg (by omega), if_pos rfl]
  split <;> rfl
theorem step_is {l l' : Lg} {d : Dk} {r : Rec} (h : l.step d = some (r, l')) : r.seq = l.next ∧ r.epoch = l.epoch ∧ l'.next = l.next ∧ l'.epoch = l.epoch := by
  have key : ∀ a b, l.openN d a b ≠ 0 → (l.openR d a b).seq = l.next ∧ (l.openR d a b).epoch = l.epoch := fun a b hab => by
    have ho : l.opens d a b := Classical.byContradiction fun hc => hab (openN_zero hc)
    rw [Lg.openR, if_pos ho]
    exact ⟨ho.2.1, ho.2.2⟩
  unfold Lg.step at h
  split at h
  · rename_i hp
    injection h with h
    injection h with h1 h2
    subst h1 h2
    exact ⟨(key _ _ (by omega)).1, (key _ _ (by omega)).2, rfl, rfl⟩
  · split at h
    · cases h
    · split at h
      · cases h
      · rename_i hz
        injection h with h
        injection h with h1 h2
        subst h1 h2
        exact ⟨(key _ _ hz).1, (key _ _ hz).2, rfl, rfl⟩
theorem scanF_seq : ∀ (k : Nat) (l : Lg) (d : Dk) (i : Nat) (x : Rec), 0 ≤ l.next → l.next < 18446744073709551616 → (scanF k l d).1[i]? = some x → x.epoch = l.epoch ∧ x.seq = (l.next + i) % 18446744073709551616
  | 0, l, d, i, x, _, _, h => by simp [scanF] at h
  | k + 1, l, d, i, x, h0, h1, h => by
    rw [scanF] at h
    split at h
    · simp at h
    · split at h
      · simp at h
      · rename_i r l' hs
        obtain ⟨s1, s2, s3, s4⟩ := step_is hs
        cases i with
        | zero =>
          simp only [List.getElem?_cons_zero, Option.some.injEq] at h
          subst h
          exact ⟨s2, by rw [s1]; omega⟩
        | succ i =>
          simp only [List.getElem?_cons_succ] at h
          have ih := scanF_seq k l'.succ d i x (by show 0 ≤ (l'.next + 1) % _; omega) (by show (l'.next + 1) % _ < _; omega) h
          refine ⟨ih.1.trans s4, ?_⟩
          rw [ih.2]
          show ((l'.next + 1) % _ + (i : Int)) % _ = _
          rw [s3]
          omega
theorem Heads.new {d : Dk} (hv : Live d) {e seq seg : Int} (hl : (Lg.new e seq seg).ok d.st.length) (hr : ∀ j, d.read j = noSec) : Heads (Lg.new e seq seg) d :=
  ⟨hv, hl, fun k _ => Or.inl (hr _)⟩
end Go.Proofs.Ytogkibikghbghaa.Wal

namespace Go.Proofs.Ytogkibikghbghaa.Wal
open Go.RowKit Go.Proofs.Ytogkibikghbghaa.Fg Go.Proofs.Ytogkibikghbghaa.Frame Go.Proofs.Ytogkibikghbghaa.Disk Go.Proofs.Ytogkibikghbghaa.Area

/-- Where a log is behind a record of so many sectors. -/
def Lg.behind (l : Lg) (N many : Int) : Lg := ⟨l.epoch, (l.next + 1) % 18446744073709551616, l.start, l.placeSeg N many, l.placeAt many + many⟩
/-- A record lies where a log's next one would be. -/
structure RecAt (d : Dk) (l : Lg) (r : Rec) : Prop where
  ok : r.ok
  good : r.good
  seq : r.seq = l.next
  epoch : r.epoch = l.epoch
  next : l.next ≠ 0
  place : l.placeOk d.st.length r.many = true
  secs : ∀ i : Nat, i < r.many → d.read (l.at_ d.st.length r.many + i) = r.made.getD i noSec
  hole : l.taken + r.many ≤ 16 ∨ l.taken = 16 ∨ d.read (segV d.st.length l.seg + l.taken) = noSec
inductive Laid (d : Dk) : Lg → List Rec → Lg → Prop
  | nil (l : Lg) : Laid d l [] l
  | cons {l l3 : Lg} {r : Rec} {rs : List Rec} (h : RecAt d l r) (t : Laid d (l.behind d.st.length r.many) rs l3) : Laid d l (r :: rs) l3
theorem Laid.snoc {d : Dk} {l l2 : Lg} {rs : List Rec} (h : Laid d l rs l2) {r : Rec} (hr : RecAt d l2 r) : Laid d l (rs ++ [r]) (l2.behind d.st.length r.many) := by
  induction h with
  | nil l => exact .cons hr (.nil _)
  | cons h t ih => exact .cons h (ih hr)
theorem good_many {r : Rec} (h : r.good) : 0 < r.many ∧ r.many ≤ 12 := by
  rw [Rec.many_of h.1]
  have := h.1
  omega
theorem placeOk_next {l : Lg} {N many : Int} (h : l.placeOk N many = true) : l.taken + many ≤ 16 ∨ nextV N l.seg ≠ l.start := by
  unfold Lg.placeOk at h
  simp only [Bool.and_eq_true, Bool.or_eq_true, Bool.not_eq_true', decide_eq_true_eq, decide_eq_false_iff_not] at h
  exact h.2
theorem behind_ok {N : Int} {l : Lg} (h : l.ok N) {many : Int} (hm : 0 ≤ many ∧ many ≤ 12) : (l.behind N many).ok N := by
  obtain ⟨h1, h2, h3⟩ := place_range h hm
  exact ⟨h.e0, h.e1, by show 0 ≤ (l.next + 1) % _; omega, by show (l.next + 1) % _ < _; omega, h.st, h1, by show 0 ≤ l.placeAt _ + _; omega, h3⟩
theorem readSecs_none (d : Dk) (k : Int) : readSecs d k 16 = [] := rfl
theorem nil_no : ¬ isRec [] := fun h => absurd h.1 (by decide)
theorem readSecs_first {d : Dk} {k at_ : Int} (h : at_ < 16) : ∃ more, readSecs d k at_ = d.read (segV d.st.length k + at_) :: more := by
  have e : readSecs d k at_ = (0 :: (List.range (15 - at_).toNat).map Nat.succ).map fun (i : Nat) => d.read (segV d.st.length k + (at_ + (i : Int))) := by
    unfold readSecs
    rw [show ((16 : Int) - at_).toNat = (15 - at_).toNat + 1 by omega, List.range_succ_eq_map]
  rw [e, List.map_cons]
  have e2 : segV d.st.length k + (at_ + ((0 : Nat) : Int)) = segV d.st.length k + at_ := by omega
  rw [e2]
  exact ⟨_, rfl⟩
theorem hole_no {l l' : Lg} {d : Dk} {k at_ : Int} (ht : at_ ≤ 16) (h : at_ = 16 ∨ d.read (segV d.st.length k + at_) = noSec) : ¬ l'.opens d k at_ := by
  intro ho
  rcases h with rfl | h
  · exact nil_no (by have := ho.1; rwa [readSecs_none] at this)
  · by_cases h16 : at_ = 16
    · subst h16; exact nil_no (by have := ho.1; rwa [readSecs_none] at this)
    · obtain ⟨more, hm⟩ := readSecs_first (d := d) (k := k) (at_ := at_) (by omega)
      rw [h] at hm
      exact noSec_no more (by have := ho.1; rwa [hm] at this)
theorem lies {d : Dk} {l : Lg} {r : Rec} (ho : r.ok) (hg : r.good) (hs : r.seq = l.next) (he : r.epoch = l.epoch) {k at_ : Int} (hm : (r.many : Int) ≤ 16 - at_)
    (h : ∀ i : Nat, i < r.many → d.read (segV d.st.length k + at_ + i) = r.made.getD i noSec) : l.openN d k at_ = r.many ∧ l.openR d k at_ = r := by
  obtain ⟨more, hmm⟩ := readSecs_made (d := d) (k := k) hg hm (fun i hi => by rw [← Int.add_assoc]; exact h i hi)
  obtain ⟨o1, o2, o3⟩ := made_opens ho hg more
  have hop : l.opens d k at_ := by
    unfold Lg.opens
    rw [hmm, o2]
    exact ⟨o1, hs, he⟩
  unfold Lg.openN Lg.openR
  rw [if_pos hop, if_pos hop, hmm]
  exact ⟨o3, o2⟩
theorem RecAt.step {d : Dk} {l : Lg} {r : Rec} (h : RecAt d l r) (ho : l.ok d.st.length) : ∃ l', l.step d = some (r, l') ∧ l'.succ = l.behind d.st.length r.many := by
  obtain ⟨m1, m2⟩ := good_many h.good
  have t0 := ho.t0
  have t1 := ho.t1
  have hs := h.secs
  by_cases hc : l.taken + r.many ≤ 16
  · have e1 : l.placeSeg d.st.length r.many = l.seg := by rw [Lg.placeSeg, if_pos hc]
    have e2 : l.placeAt r.many = l.taken := by rw [Lg.placeAt, if_pos hc]
    rw [Lg.at_, e1, e2] at hs
    obtain ⟨a1, a2⟩ := lies h.ok h.good h.seq h.epoch (by omega) hs
    refine ⟨{ l with taken := l.taken + r.many }, ?_, ?_⟩
    · rw [Lg.step, a1, if_pos (by omega), a2]
    · rw [Lg.behind, e1, e2]; rfl
  · have e1 : l.placeSeg d.st.length r.many = nextV d.st.length l.seg := by rw [Lg.placeSeg, if_neg hc]
    have e2 : l.placeAt r.many = 0 := by rw [Lg.placeAt, if_neg hc]
    rw [Lg.at_, e1, e2] at hs
    obtain ⟨a1, a2⟩ := lies h.ok h.good h.seq h.epoch (by omega) hs
    have hn : nextV d.st.length l.seg ≠ l.start := (placeOk_next h.place).resolve_left hc
    have hz : l.openN d l.seg l.taken = 0 := openN_zero (hole_no (l := l) t1 (h.hole.resolve_left hc))
    refine ⟨{ l with seg := nextV d.st.length l.seg, taken := r.many }, ?_, ?_⟩
    · rw [Lg.step, hz, if_neg (by omega), if_neg hn, a1, a2, if_neg (by omega)]
    · rw [Lg.behind, e1, e2, Int.zero_add]; rfl
theorem Laid.scan {d : Dk} {l l2 : Lg} {rs : List Rec} (h : Laid d l rs l2) : l.ok d.st.length → ∀ k, scanF (rs.length + k) l d = (rs ++ (scanF k l2 d).1, (scanF k l2 d).2) := by
  induction h with
  | nil l => intro _ k; rw [List.length_nil, Nat.zero_add, List.nil_append]
  | cons h t ih =>
    rename_i l l3 r rs
    intro ho k
    obtain ⟨m1, m2⟩ := good_many h.good
    obtain ⟨l', hs, he⟩ := h.step ho
    have ih := ih (behind_ok ho (by omega)) k
    rw [List.length_cons, show rs.length + 1 + k = (rs.length + k) + 1 by omega, scanF_go (rs.length + k) h.next hs, he, ih, List.cons_append]
theorem Laid.ok {d : Dk} {l l2 : Lg} {rs : List Rec} (h : Laid d l rs l2) : l.ok d.st.length → l2.ok d.st.length := by
  induction h with
  | nil l => exact id
  | cons h t ih => intro ho; have := good_many h.good; exact ih (behind_ok ho (by omega))

/-- How far a log has come, in sectors. -/
def rank (N start k : Int) : Int := (k - start) % segsN N
def Lg.lin (l : Lg) (N : Int) : Int := rank N l.start l.seg * 16 + l.taken
/-- A sector that lies before it. -/
def Bef (N : Int) (l : Lg) (q : Int) : Prop := ∃ k i : Int, okB N k = true ∧ 0 ≤ i ∧ i < 16 ∧ q = segV N k + i ∧ rank N l.start k * 16 + i < l.lin N
theorem rank_range {N start k : Int} (h : okB N k = true) : 0 ≤ rank N start k ∧ rank N start k < segsN N := by
  obtain ⟨h1, h2, h3, h4, h5⟩ := okB_in h
  have hn : 0 < segsN N := by omega
  exact ⟨Int.emod_nonneg _ (by omega), Int.emod_lt_of_pos _ hn⟩
theorem rank_next {N start k : Int} (hk : okB N k = true) (hs : okB N start = true) (hne : nextV N k ≠ start) : rank N start (nextV N k) = rank N start k + 1 := by
  obtain ⟨h1, h2, h3, h4, h5⟩ := okB_in hk
  obtain ⟨-, -, g3, g4, -⟩ := okB_in hs
  have e : nextV N k = (k + 1) % segsN N := by rw [nextV, if_pos hk]
  rw [e] at hne
  rw [rank, rank, e]
  exact mod_inc (by omega) h3 (by omega) g3 (by omega) hne
theorem seg_one {N k k' i i' : Int} (h : okB N k = true) (h' : okB N k' = true) (hi : 0 ≤ i ∧ i < 16) (hi' : 0 ≤ i' ∧ i' < 16) (e : segV N k + i = segV N k' + i') : k = k' ∧ i = i' := by
  obtain ⟨h1, h2, h3⟩ := segV_eq h
  obtain ⟨g1, g2, g3⟩ := segV_eq h'
  rw [h1, g1] at e
  omega
theorem bef_iff {N : Int} {l : Lg} {k i : Int} (hk : okB N k = true) (hi : 0 ≤ i ∧ i < 16) : Bef N l (segV N k + i) ↔ rank N l.start k * 16 + i < l.lin N := by
  constructor
  · rintro ⟨k', i', h1, h2, h3, h4, h5⟩
    obtain ⟨rfl, rfl⟩ := seg_one hk h1 hi ⟨h2, h3⟩ h4
    exact h5
  · exact fun h => ⟨k, i, hk, hi.1, hi.2, rfl, h⟩
/-- Where the next record is, in sectors. -/
theorem place_lin {N : Int} {l : Lg} (ho : l.ok N) {many : Int} (hm : 0 < many ∧ many ≤ 12) (hp : l.placeOk N many = true) :
    l.lin N ≤ rank N l.start (l.placeSeg N many) * 16 + l.placeAt many ∧ (l.behind N many).lin N = rank N l.start (l.placeSeg N many) * 16 + l.placeAt many + many := by
  refine ⟨?_, by unfold Lg.lin Lg.behind; simp only; omega⟩
  have t1 := ho.t1
  unfold Lg.lin
  by_cases hc : l.taken + many ≤ 16
  · rw [Lg.placeSeg, Lg.placeAt, if_pos hc, if_pos hc]; omega
  · rw [Lg.placeSeg, Lg.placeAt, if_neg hc, if_neg hc, rank_next ho.sg ho.st ((placeOk_next hp).resolve_left hc)]; omega
theorem bef_behind {N : Int} {l : Lg} (ho : l.ok N) {many : Int} (hm : 0 < many ∧ many ≤ 12) (hp : l.placeOk N many = true) {q : Int} (h : Bef N l q) : Bef N (l.behind N many) q := by
  obtain ⟨k, i, h1, h2, h3, h4, h5⟩ := h
  have := place_lin ho hm hp
  exact ⟨k, i, h1, h2, h3, h4, by show rank N l.start k * 16 + i < _; omega⟩
theorem at_bef {N : Int} {l : Lg} (ho : l.ok N) {many : Int} (hm : 0 < many ∧ many ≤ 12) (hp : l.placeOk N many = true) {i : Int} (hi : 0 ≤ i ∧ i < many) :
    Bef N (l.behind N many) (l.at_ N many + i) ∧ ¬ Bef N l (l.at_ N many + i) := by
  have hl := place_lin ho hm hp
  obtain ⟨p1, p2, p3⟩ := place_range ho (many := many) (by omega)
  rw [Lg.at_, Int.add_assoc]
  rw [bef_iff p1 (by omega), bef_iff p1 (by omega)]
  refine ⟨?_, ?_⟩
  · show rank N l.start _ * 16 + _ < _; omega
  · omega
theorem hole_bef {N : Int} {l : Lg} (ho : l.ok N) {many : Int} (hm : 0 < many ∧ many ≤ 12) (hp : l.placeOk N many = true) (hc : ¬ l.taken + many ≤ 16) (ht : l.taken ≠ 16) :
    Bef N (l.behind N many) (segV N l.seg + l.taken) ∧ ¬ Bef N l (segV N l.seg + l.taken) ∧ ∀ i : Int, 0 ≤ i → i < many → segV N l.seg + l.taken ≠ l.at_ N many + i := by
  have hl := place_lin ho hm hp
  have t0 := ho.t0
  have t1 := ho.t1
  have hn := rank_next ho.sg ho.st ((placeOk_next hp).resolve_left hc)
  have e1 : l.placeSeg N many = nextV N l.seg := by rw [Lg.placeSeg, if_neg hc]
  have e2 : l.placeAt many = 0 := by rw [Lg.placeAt, if_neg hc]
  rw [bef_iff ho.sg (by omega), bef_iff ho.sg (by omega)]
  refine ⟨?_, by unfold Lg.lin; omega, fun i h0 h1 e => ?_⟩
  · rw [e1, e2] at hl
    show rank N l.start l.seg * 16 + _ < _
    omega
  · rw [Lg.at_, e1, e2, Int.add_zero] at e
    obtain ⟨ek, -⟩ := seg_one ho.sg (nextV_ok ho.sg) ⟨t0, by omega⟩ ⟨h0, by omega⟩ e
    rw [← ek] at hn
    omega
theorem RecAt.same {d d' : Dk} {l : Lg} {r : Rec} (h : RecAt d l r) (ho : l.ok d.st.length) (hst : d'.st.length = d.st.length) (hr : ∀ q, Bef d.st.length (l.behind d.st.length r.many) q → d'.read q = d.read q) : RecAt d' l r := by
  obtain ⟨m1, m2⟩ := good_many h.good
  refine ⟨h.ok, h.good, h.seq, h.epoch, h.next, by rw [hst]; exact h.place, fun i hi => ?_, ?_⟩
  · rw [hst, hr _ (at_bef ho (by omega) h.place (by omega)).1]
    exact h.secs i hi
  · rw [hst]
    by_cases hc : l.taken + r.many ≤ 16
    · exact .inl hc
    · by_cases ht : l.taken = 16
      · exact .inr (.inl ht)
      · refine .inr (.inr ?_)
        rw [hr _ (hole_bef ho (by omega) h.place hc ht).1]
        exact (h.hole.resolve_left hc).resolve_left ht
theorem Laid.bef {d : Dk} {l l2 : Lg} {rs : List Rec} (h : Laid d l rs l2) : l.ok d.st.length → ∀ q, Bef d.st.length l q → Bef d.st.length l2 q := by
  induction h with
  | nil l => exact fun _ _ h => h
  | cons h t ih =>
    intro ho q hq
    have := good_many h.good
    exact ih (behind_ok ho (by omega)) q (bef_behind ho (by omega) h.place hq)
theorem Laid.same {d d' : Dk} {l l2 : Lg} {rs : List Rec} (h : Laid d l rs l2) (hst : d'.st.length = d.st.length) : l.ok d.st.length → (∀ q, Bef d.st.length l2 q → d'.read q = d.read q) → Laid d' l rs l2 := by
  induction h with
  | nil l => exact fun _ _ => .nil l
  | cons h t ih =>
    intro ho hr
    have hm := good_many h.good
    refine .cons (h.same ho hst fun q hq => hr q (t.bef (behind_ok ho (by omega)) q hq)) ?_
    rw [hst]
    exact ih (behind_ok ho (by omega)) hr

/-- Nothing lies behind a log. -/
def Free (d : Dk) (l : Lg) : Prop := ∀ k i : Int, okB d.st.length k = true → 0 ≤ i → i < 16 → ¬ Bef d.st.length l (segV d.st.length k + i) → d.read (segV d.st.length k + i) = noSec
theorem Free.stop {d : Dk} {l : Lg} (h : Free d l) (ho : l.ok d.st.length) : l.step d = none := by
  have t0 := ho.t0
  have t1 := ho.t1
  have h1 : l.openN d l.seg l.taken = 0 := by
    refine openN_zero (hole_no (l := l) t1 ?_)
    by_cases ht : l.taken = 16
    · exact .inl ht
    · refine .inr (h _ _ ho.sg t0 (by omega) ?_)
      rw [bef_iff ho.sg (by omega)]
      unfold Lg.lin; omega
  unfold Lg.step
  rw [h1, if_neg (by omega)]
  split
  · rfl
  · rename_i hn
    have h2 : l.openN d (nextV d.st.length l.seg) 0 = 0 := by
      refine openN_zero (hole_no (l := l) (by decide) (.inr (h _ _ (nextV_ok ho.sg) (by decide) (by decide) ?_)))
      rw [bef_iff (nextV_ok ho.sg) (by decide), rank_next ho.sg ho.st hn]
      unfold Lg.lin; omega
    rw [if_pos h2]
/-- An append of a record to a disk that loses no power. -/
theorem app_laid_of {l0 l : Lg} {d : Dk} {rs : List Rec} (h0 : l0.ok d.st.length) (hl : Laid d l0 rs l) (hf : Free d l) {p : List Int} (hs : Crc.Small p) (hp : p.length ≤ 700) (hn : l.next ≠ 0)
    (hk : l.placeOk d.st.length (l.rcd p).many = true) (a1 : l.appE d p = 0)
    (a3 : ∀ j, (l.appD d p).read j = if l.at_ d.st.length (l.rcd p).many ≤ j ∧ j < l.at_ d.st.length (l.rcd p).many + (l.rcd p).many then (l.rcd p).made.getD (j - l.at_ d.st.length (l.rcd p).many).toNat noSec else d.read j) :
    l.appL d p = l.behind d.st.length (l.rcd p).many ∧ Laid (l.appD d p) l0 (rs ++ [l.rcd p]) (l.appL d p) ∧ Free (l.appD d p) (l.appL d p) := by
  have ho := hl.ok h0
  obtain ⟨m1, m2, m3⟩ := rcd_many (l := l) hp
  have hst := appD_st l d p
  have hL : l.appL d p = l.behind d.st.length (l.rcd p).many := by rw [Lg.appL, if_pos a1]; rfl
  have hm : 0 < ((l.rcd p).many : Int) ∧ ((l.rcd p).many : Int) ≤ 12 := by omega
  refine ⟨hL, ?_, ?_⟩
  · have hold : Laid (l.appD d p) l0 rs l := by
      refine hl.same (by rw [hst]) h0 fun q hq => ?_
      rw [a3, if_neg]
      rintro ⟨q1, q2⟩
      refine (at_bef ho hm hk (i := q - l.at_ d.st.length (l.rcd p).many) (by omega)).2 ?_
      rw [show l.at_ d.st.length (l.rcd p).many + (q - l.at_ d.st.length (l.rcd p).many) = q by omega]
      exact hq
    have hr : RecAt (l.appD d p) l (l.rcd p) := by
      refine ⟨rcd_ok ho hs, rcd_good hp, if_neg hn, rfl, hn, by rw [hst]; exact hk, fun i hi => ?_, ?_⟩
      · rw [hst, a3, if_pos (by omega)]
        congr 1
        omega
      · rw [hst]
        by_cases hc : l.taken + (l.rcd p).many ≤ 16
        · exact .inl hc
        · by_cases ht : l.taken = 16
          · exact .inr (.inl ht)
          · obtain ⟨b1, b2, b3⟩ := hole_bef ho hm hk hc ht
            refine .inr (.inr ?_)
            rw [a3, if_neg]
            · have := ho.t0
              have := ho.t1
              exact hf _ _ ho.sg ho.t0 (by omega) b2
            · rintro ⟨q1, q2⟩
              exact b3 (segV d.st.length l.seg + l.taken - l.at_ d.st.length (l.rcd p).many) (by omega) (by omega) (by omega)
    have := hold.snoc hr
    rw [hst] at this
    rw [hL]
    exact this
  · intro k i h1 h2 h3 h4
    rw [hst] at h1 h4 ⊢
    rw [hL] at h4
    rw [a3, if_neg]
    · exact hf k i h1 h2 h3 (fun hb => h4 (bef_behind ho hm hk hb))
    · rintro ⟨q1, q2⟩
      refine h4 ?_
      have := (at_bef ho hm hk (i := segV d.st.length k + i - l.at_ d.st.length (l.rcd p).many) (by omega)).1
      rwa [show l.at_ d.st.length (l.rcd p).many + (segV d.st.length k + i - l.at_ d.st.length (l.rcd p).many) = segV d.st.length k + i by omega] at this
theorem app_laid {l0 l : Lg} {d : Dk} {rs : List Rec} (h0 : l0.ok d.st.length) (hl : Laid d l0 rs l) (hf : Free d l) (hv : Live d) {p : List Int} (hs : Crc.Small p) (hp : p.length ≤ 700) (hn : l.next ≠ 0)
    (hk : l.placeOk d.st.length (l.rcd p).many = true) :
    l.appE d p = 0 ∧ Live (l.appD d p) ∧ l.appL d p = l.behind d.st.length (l.rcd p).many ∧ Laid (l.appD d p) l0 (rs ++ [l.rcd p]) (l.appL d p) ∧ Free (l.appD d p) (l.appL d p) := by
  obtain ⟨a1, a2, a3⟩ := Heads.done hv (hl.ok h0) hp hk
  exact ⟨a1, a2, app_laid_of h0 hl hf hs hp hn hk a1 a3⟩
/-- All records are found, and nothing else. -/
theorem Laid.all {d : Dk} {epoch seq seg : Int} {l : Lg} {rs : List Rec} (h : Laid d (Lg.new epoch seq seg) rs l) (h0 : (Lg.new epoch seq seg).ok d.st.length) (hf : Free d l) (hn : rs.length ≤ 496) : scanAll d epoch seq seg = (rs, l) := by
  have := h.scan h0 (496 - rs.length)
  rw [show rs.length + (496 - rs.length) = 496 by omega] at this
  rw [scanAll, this, scanF_stop _ (.inr (hf.stop (h.ok h0))), List.append_nil]
/-- How many sectors are left. -/
theorem left_lin {N : Int} {l : Lg} (ho : l.ok N) : l.left N = segsN N * 16 - l.lin N := by
  have e : usedV N l.start l.seg = rank N l.start l.seg + 1 := by rw [usedV, if_pos ⟨ho.st, ho.sg⟩]; rfl
  unfold Lg.left Lg.lin
  rw [e]; omega
theorem room_left {N : Int} {l : Lg} (ho : l.ok N) (hn : l.next ≠ 0) {many : Int} (hm : 0 < many ∧ many ≤ 12) : (27 ≤ l.left N → l.placeOk N many = true) ∧ (l.placeOk N many = true → many ≤ l.left N) := by
  have hl := left_lin ho
  have hr := rank_range (start := l.start) ho.sg
  have t0 := ho.t0
  have t1 := ho.t1
  refine ⟨fun h => ?_, fun h => ?_⟩
  · unfold Lg.placeOk
    simp only [Bool.and_eq_true, Bool.or_eq_true, Bool.not_eq_true', decide_eq_true_eq, decide_eq_false_iff_not]
    refine ⟨⟨by omega, hn⟩, ?_⟩
    by_cases hc : l.taken + many ≤ 16
    · exact .inl hc
    · refine .inr fun e => ?_
      obtain ⟨h1, h2, h3, h4, h5⟩ := okB_in ho.sg
      obtain ⟨-, -, g3, g4, -⟩ := okB_in ho.st
      have e1 : nextV N l.seg = (l.seg + 1) % segsN N := by rw [nextV, if_pos ho.sg]
      have hrk : rank N l.start l.seg = segsN N - 1 := by
        rw [← e, rank, e1]
        rw [h5] at *
        by_cases hlast : l.seg + 1 = (N - 32) / 16
        · rw [hlast, Int.emod_self]
          rw [Int.emod_eq_of_lt (by omega) (by omega)]; omega
        · rw [Int.emod_eq_of_lt (by omega : 0 ≤ l.seg + 1) (by omega)]
          rw [show l.seg - (l.seg + 1) = -1 by omega]
          have : (-1 : Int) % ((N - 32) / 16) = (N - 32) / 16 - 1 := by
            rw [show (-1 : Int) = ((N - 32) / 16 - 1) + ((N - 32) / 16) * (-1) by omega, Int.add_mul_emod_self_left]
            exact Int.emod_eq_of_lt (by omega) (by omega)
          exact this
      unfold Lg.lin at hl
      omega
  · have := place_lin ho hm h
    have hb := rank_range (start := l.start) (place_range ho (many := many) (by omega)).1
    have := (place_range ho (many := many) (by omega)).2.2
    have hp := (place_range ho (many := many) (by omega)).2.1
    unfold Lg.lin at hl
    by_cases hc : l.taken + many ≤ 16
    · omega
    · have hrn := rank_next ho.sg ho.st ((placeOk_next h).resolve_left hc)
      rw [Lg.placeSeg, if_neg hc] at hb
      omega
theorem Free.new {n : Nat} (l : Lg) : Free (Dk.new n) l := fun k i _ _ _ _ => by
  unfold Dk.read
  split
  · show (List.replicate n noSec).getD _ noSec = noSec
    rw [List.getD_eq_getElem?_getD, List.getElem?_replicate]
    split <;> rfl
  · rfl
end Go.Proofs.Ytogkibikghbghaa.Wal

namespace Go.Proofs.Ytogkibikghbghaa.Wal
open Go.RowKit Go.Proofs.Ytogkibikghbghaa.Fg Go.Proofs.Ytogkibikghbghaa.Frame Go.Proofs.Ytogkibikghbghaa.Disk Go.Proofs.Ytogkibikghbghaa.Area

/-- A disk as it is behind a crash that keeps nothing. -/
def stb (d : Dk) : Dk := { d with pd := [] }
theorem stb_read (d : Dk) (i : Int) : (stb d).read i = if d.there i then d.st.getD i.toNat noSec else noSec := rfl
theorem settle_other (f : Nat → Bool) (i : Nat) : ∀ (l : List (Nat × List Int)) (k : Nat) (st : List (List Int)), (∀ x ∈ l, x.1 ≠ i) → (Dk.settle f k st l).getD i noSec = st.getD i noSec
  | [], _, _, _ => rfl
  | x :: r, k, st, h => by
    rw [Dk.settle, settle_other f i r (k + 1) _ (fun y hy => h y (by simp [hy]))]
    split
    · have := h x (by simp)
      simp [List.getD_eq_getElem?_getD, List.getElem?_set_ne this]
    · rfl
theorem settle_last (i : Nat) : ∀ (l : List (Nat × List Int)) (k : Nat) (st : List (List Int)), i < st.length → (Dk.settle (fun _ => true) k st l).getD i noSec = Dk.last i (st.getD i noSec) l
  | [], _, _, _ => rfl
  | x :: r, k, st, hi => by
    rw [Dk.settle, Dk.last, if_pos rfl, settle_last i r (k + 1) (st.set x.1 x.2) (by simpa using hi)]
    congr 1
    by_cases hx : (x.1 : Int) = i
    · have hx' : x.1 = i := by omega
      rw [if_pos hx, hx']
      simp [hi]
    · have hx' : x.1 ≠ i := fun e => hx (by omega)
      rw [if_neg hx]
      simp [List.getElem?_set_ne hx']
theorem up_act {d : Dk} (h : d.down = false) : (d.actE = 0 ∧ d.act.down = false) ∨ (d.actE = 72 ∧ d.act.down = true) := by
  have h' : ¬ d.down = true := by rw [h]; decide
  unfold Dk.actE Dk.act
  rw [if_neg h', if_neg h']
  by_cases h1 : d.left = -1
  · rw [if_pos h1, if_pos h1]; exact .inl ⟨rfl, h⟩
  · rw [if_neg h1, if_neg h1]
    by_cases h2 : 0 < d.left
    · rw [if_pos h2, if_pos h2]; exact .inl ⟨rfl, h⟩
    · rw [if_neg h2, if_neg h2]; exact .inr ⟨rfl, rfl⟩
theorem put_read {d : Dk} (ha : d.actE = 0) {i : Int} (hi : d.there i = true) (s : List Int) (j : Int) : (d.put i s).read j = if j = i then s else d.read j := by
  have h0 : 0 ≤ i ∧ i < (d.st.length : Int) := by simpa [Dk.there] using hi
  have e : d.put i s = { d.act with pd := d.pd ++ [(i.toNat, s)] } := by rw [Dk.put, if_pos hi, if_pos ha]
  have hst : (d.put i s).st = d.st := by rw [e]; exact Dk.act_st d
  have hpd : (d.put i s).pd = d.pd ++ [(i.toNat, s)] := by rw [e]
  have ht : (d.put i s).there j = d.there j := by unfold Dk.there; rw [hst]
  unfold Dk.read
  rw [ht, hst, hpd]
  by_cases hj : d.there j = true
  · rw [if_pos hj, if_pos hj, Dk.last_snoc]
    by_cases e : j = i
    · rw [if_pos e, if_pos (by show ((i.toNat : Nat) : Int) = j; omega)]
    · rw [if_neg e, if_neg (by show ¬ ((i.toNat : Nat) : Int) = j; omega)]
  · have hne : ¬ j = i := fun e => hj (by rw [e]; exact hi)
    rw [if_neg hj, if_neg hj, if_neg hne]
/-- Sectors written to a disk that is up: all of them, or the power is lost. -/
theorem putAll_up : ∀ (r : List (List Int)) (d : Dk) (i : Int), d.down = false → 0 ≤ i → i + r.length ≤ d.st.length →
    ((putAllE d i r = 0 ∧ (putAll d i r).down = false ∧ ∀ j, (putAll d i r).read j = if i ≤ j ∧ j < i + r.length then r.getD (j - i).toNat noSec else d.read j) ∨ (putAllE d i r = 72 ∧ (putAll d i r).down = true)) ∧
    ∀ x ∈ (putAll d i r).pd, x ∈ d.pd ∨ (i ≤ (x.1 : Int) ∧ (x.1 : Int) < i + r.length)
  | [], d, i, h, h0, h1 => ⟨.inl ⟨rfl, h, fun j => by rw [if_neg (by simp only [List.length_nil]; omega)]; rfl⟩, fun x hx => .inl hx⟩
  | s :: r, d, i, h, h0, h1 => by
    have hi : d.there i = true := by
      simp only [List.length_cons] at h1
      simp only [Dk.there, Bool.and_eq_true, decide_eq_true_eq]; omega
    have hpe : d.putE i = d.actE := by rw [Dk.putE, if_pos hi]
    rw [putAll, putAllE]
    rcases up_act h with ⟨a1, a2⟩ | ⟨a1, a2⟩
    · have e : d.put i s = { d.act with pd := d.pd ++ [(i.toNat, s)] } := by rw [Dk.put, if_pos hi, if_pos a1]
      have hst : (d.put i s).st = d.st := put_st d i s
      have hdn : (d.put i s).down = false := by rw [e]; exact a2
      obtain ⟨b1, b2⟩ := putAll_up r (d.put i s) (i + 1) hdn (by omega) (by rw [hst]; simp only [List.length_cons] at h1; omega)
      rw [if_pos (hpe.trans a1), if_pos (hpe.trans a1)]
      refine ⟨?_, fun x hx => ?_⟩
      · rcases b1 with ⟨c1, c2, c3⟩ | c
        · refine .inl ⟨c1, c2, fun j => ?_⟩
          rw [c3 j, put_read a1 hi]
          simp only [List.length_cons]
          by_cases e : j = i
          · subst e
            rw [if_neg (by omega), if_pos rfl, if_pos (by omega), Int.sub_self]
            rfl
          · rw [if_neg e]
            by_cases hj : i + 1 ≤ j ∧ j < i + 1 + r.length
            · rw [if_pos hj, if_pos (by omega), show (j - i).toNat = (j - (i + 1)).toNat + 1 by omega]
              rfl
            · rw [if_neg hj, if_neg (by omega)]
        · exact .inr c
      · simp only [List.length_cons]
        rcases b2 x hx with hx | hx
        · rw [e] at hx
          rcases List.mem_append.1 hx with hx | hx
          · exact .inl hx
          · rw [List.mem_singleton.1 hx]; right; show i ≤ ((i.toNat : Nat) : Int) ∧ ((i.toNat : Nat) : Int) < _; omega
        · right; omega
    · have hne : ¬ d.putE i = 0 := by rw [hpe, a1]; decide
      have e : d.put i s = d.act := by rw [Dk.put, if_pos hi, if_neg (by rw [a1]; decide)]
      rw [if_neg hne, if_neg hne]
      refine ⟨.inr ⟨by rw [hpe, a1], by rw [e]; exact a2⟩, fun x hx => .inl ?_⟩
      rw [e, Dk.act_pd] at hx
      exact hx
def l9 : Lg := Lg.new 9 100 0
/-- What is safe is laid on what is stable, and nothing that is pending lies on it. -/
structure KpS (N k : Nat) (d : Dk) (rs : List Rec) : Prop where
  len : d.st.length = N
  start : l9.ok N
  few : k ≤ rs.length
  most : rs.length ≤ 60
  small : ∀ r ∈ rs, Crc.Small r.pay
  safe : ∃ ls, Laid (stb d) l9 (rs.take k) ls ∧ ∀ x ∈ d.pd, ¬ Bef N ls (x.1 : Int)
structure KpL (N j k : Nat) (l : Lg) (d : Dk) (rs : List Rec) : Prop where
  laid : Laid d l9 rs l
  free : Free d l
  up : d.down = false
  len : d.st.length = N
  start : l9.ok N
  pd : d.pd.length ≤ j * 12
  next : l.next = 100 + rs.length
  epoch : l.epoch = 9
  few : k ≤ rs.length
  most : rs.length ≤ j
  small : ∀ r ∈ rs, Crc.Small r.pay
  safe : ∃ ls, Laid (stb d) l9 (rs.take k) ls ∧ (∀ x ∈ d.pd, ¬ Bef N ls (x.1 : Int)) ∧ ∀ q, Bef N ls q → Bef N l q
theorem KpL.toS {N j k : Nat} {l : Lg} {d : Dk} {rs : List Rec} (h : KpL N j k l d rs) (hj : j ≤ 60) : KpS N k d rs := by
  obtain ⟨ls, h1, h2, -⟩ := h.safe
  exact ⟨h.len, h.start, h.few, Nat.le_trans h.most hj, h.small, ls, h1, h2⟩
theorem KpL.more {N j k : Nat} {l : Lg} {d : Dk} {rs : List Rec} (h : KpL N j k l d rs) : KpL N (j + 1) k l d rs :=
  ⟨h.laid, h.free, h.up, h.len, h.start, by have := h.pd; omega, h.next, h.epoch, h.few, by have := h.most; omega, h.small, h.safe⟩
theorem stb_laid {d d' : Dk} (hst : d'.st = d.st) {l l2 : Lg} {rs : List Rec} (h : Laid (stb d) l rs l2) (ho : l.ok d.st.length) : Laid (stb d') l rs l2 :=
  h.same (by show d'.st.length = d.st.length; rw [hst]) ho (fun q _ => by rw [stb_read, stb_read]; unfold Dk.there; rw [hst])
theorem stb_safe {N k : Nat} {d d' : Dk} {rs : List Rec} (h : KpS N k d rs) (hst : d'.st = d.st) (hpd : d'.pd = d.pd) : KpS N k d' rs := by
  obtain ⟨ls, h1, h2⟩ := h.safe
  exact ⟨by rw [hst]; exact h.len, h.start, h.few, h.most, h.small, ls, stb_laid hst h1 (by rw [h.len]; exact h.start), by rw [hpd]; exact h2⟩
theorem app_pd12 (l : Lg) (d : Dk) (p : List Int) : (l.appD d p).pd.length ≤ d.pd.length + 12 := by
  unfold Lg.appD
  split
  · omega
  · rename_i hp7
    split
    · have h1 := putAll_pd (l.rcd p).made d (l.at_ d.st.length (l.rcd p).many)
      obtain ⟨m1, m2, m3⟩ := rcd_many (l := l) (p := p) (by omega)
      omega
    · omega
theorem KpL.same {N j k : Nat} {l : Lg} {d : Dk} {rs : List Rec} (h : KpL N j k l d rs) {p : List Int} (hk : ¬ (p.length ≤ 700 ∧ l.placeOk N (l.rcd p).many = true)) : l.appL d p = l ∧ l.appD d p = d ∧ l.appE d p ≠ 0 :=
  app_same (by rw [h.len]; exact hk)
theorem KpL.app {N j k : Nat} {l : Lg} {d : Dk} {rs : List Rec} (h : KpL N j k l d rs) (hj : j < 60) {p : List Int} (hs : Crc.Small p) (hk : p.length ≤ 700 ∧ l.placeOk N (l.rcd p).many = true) :
    (l.appE d p = 0 ∧ KpL N (j + 1) k (l.appL d p) (l.appD d p) (rs ++ [⟨l.next, 9, p⟩]) ∧ l.appN d p = l.next ∧ (l.appD d p).down = false) ∨ (l.appE d p ≠ 0 ∧ (l.appD d p).down = true ∧ KpS N k (l.appD d p) rs) := by
  obtain ⟨hp, hk⟩ := hk
  have hn : l.next ≠ 0 := by have := h.next; omega
  have hr : l.rcd p = ⟨l.next, 9, p⟩ := by unfold Lg.rcd; rw [if_neg hn, h.epoch]
  have h0 : l9.ok d.st.length := by rw [h.len]; exact h.start
  have ho := h.laid.ok h0
  have hk' : l.placeOk d.st.length (l.rcd p).many = true := by rw [h.len]; exact hk
  obtain ⟨m1, m2, m3⟩ := rcd_many (l := l) hp
  have hm : 0 < ((l.rcd p).many : Int) ∧ ((l.rcd p).many : Int) ≤ 12 := by omega
  obtain ⟨p1, p2, p3⟩ := place_range ho (many := (l.rcd p).many) (by omega)
  obtain ⟨s1, s2, s3⟩ := segV_eq p1
  have hat : l.at_ d.st.length (l.rcd p).many = 32 + l.placeSeg d.st.length (l.rcd p).many * 16 + l.placeAt (l.rcd p).many := by rw [Lg.at_, s1]
  obtain ⟨b1, b2⟩ := putAll_up (l.rcd p).made d (l.at_ d.st.length (l.rcd p).many) h.up (by omega) (by rw [m1]; omega)
  rw [m1] at b1 b2
  have eE : l.appE d p = putAllE d (l.at_ d.st.length (l.rcd p).many) (l.rcd p).made := by unfold Lg.appE; rw [if_neg (by omega), if_pos hk']
  have eD : l.appD d p = putAll d (l.at_ d.st.length (l.rcd p).many) (l.rcd p).made := by unfold Lg.appD; rw [if_neg (by omega), if_pos hk']
  rw [← eE, ← eD] at b1
  rw [← eD] at b2
  have hst := appD_st l d p
  have hpd := app_pd12 l d p
  obtain ⟨ls, g1, g2, g3⟩ := h.safe
  have hpend : ∀ x ∈ (l.appD d p).pd, ¬ Bef N ls (x.1 : Int) := by
    intro x hx
    rcases b2 x hx with hx | hx
    · exact g2 x hx
    · intro hb
      have := (at_bef ho hm hk' (i := (x.1 : Int) - l.at_ d.st.length (l.rcd p).many) (by omega)).2
      rw [show l.at_ d.st.length (l.rcd p).many + ((x.1 : Int) - l.at_ d.st.length (l.rcd p).many) = (x.1 : Int) by omega] at this
      rw [h.len] at this
      exact this (g3 _ hb)
  rcases b1 with ⟨a1, a2, a3⟩ | ⟨a1, a2⟩
  · left
    obtain ⟨c1, c2, c3⟩ := app_laid_of h0 h.laid h.free hs hp hn hk' a1 a3
    rw [hr] at c2
    refine ⟨a1, ⟨c2, c3, a2, by rw [hst]; exact h.len, h.start, by have := h.pd; omega, ?_, ?_, ?_, ?_, ?_, ls, ?_, hpend, fun q hq => ?_⟩, by rw [Lg.appN, if_pos a1], a2⟩
    · rw [c1]
      show (l.next + 1) % _ = _
      have := h.next
      have := h.most
      simp only [List.length_append, List.length_cons, List.length_nil]
      omega
    · rw [c1]; exact h.epoch
    · have := h.few; simp; omega
    · have := h.most; simp; omega
    · intro r hm
      rcases List.mem_append.1 hm with hm | hm
      · exact h.small r hm
      · rw [List.mem_singleton.1 hm]; exact hs
    · rw [List.take_append_of_le_length h.few]
      exact stb_laid hst g1 h0
    · rw [c1, h.len]
      have := bef_behind ho hm hk' (q := q)
      rw [h.len] at this
      exact this (g3 q hq)
  · right
    exact ⟨by rw [a1]; decide, a2, by rw [hst]; exact h.len, h.start, h.few, by have := h.most; omega, h.small, ls, stb_laid hst g1 h0, hpend⟩
theorem KpL.sync {N j k : Nat} {l : Lg} {d : Dk} {rs : List Rec} (h : KpL N j k l d rs) (hj : j ≤ 60) :
    (d.actE = 0 ∧ KpL N j rs.length l d.sync rs ∧ d.sync.down = false) ∨ (d.actE ≠ 0 ∧ d.sync.down = true ∧ KpS N k d.sync rs) := by
  have h0 : l9.ok d.st.length := by rw [h.len]; exact h.start
  rcases up_act h.up with ⟨a1, a2⟩ | ⟨a1, a2⟩
  · left
    have e : d.sync = { d.act with st := Dk.settle (fun _ => true) 0 d.st d.pd, pd := [] } := if_pos a1
    have hst : d.sync.st.length = d.st.length := by rw [e]; exact Dk.length_settle _ _ _ _
    have hrd : ∀ q, d.sync.read q = d.read q := by
      intro q
      have ht : d.sync.there q = d.there q := by unfold Dk.there; rw [hst]
      unfold Dk.read
      rw [ht]
      split
      · rename_i hq
        have hq' : 0 ≤ q ∧ q < (d.st.length : Int) := by simpa [Dk.there] using hq
        have hs1 : d.sync.st = Dk.settle (fun _ => true) 0 d.st d.pd := by rw [e]
        have hp1 : d.sync.pd = [] := by rw [e]
        rw [hs1, hp1]
        show (Dk.settle (fun _ => true) 0 d.st d.pd).getD q.toNat noSec = _
        rw [settle_last q.toNat d.pd 0 d.st (by omega), show ((q.toNat : Nat) : Int) = q by omega]
      · rfl
    have hpd : d.sync.pd = [] := by rw [e]
    have hrs : ∀ q, (stb d.sync).read q = d.read q := fun q => by
      rw [← hrd q, stb_read, Dk.read, hpd]; rfl
    have hdn : d.sync.down = false := by rw [e]; exact a2
    refine ⟨a1, ⟨h.laid.same hst h0 (fun q _ => hrd q), ?_, hdn, by rw [hst]; exact h.len, h.start, by rw [hpd]; simp, h.next, h.epoch, Nat.le_refl _, h.most, h.small, l, ?_, (by rw [hpd]; intro x hx; cases hx), fun _ hq => hq⟩, hdn⟩
    · intro k i h1 h2 h3 h4
      rw [hst] at h1 h4 ⊢
      rw [hrd]
      exact h.free k i h1 h2 h3 h4
    · rw [List.take_length]
      exact h.laid.same (d' := stb d.sync) hst h0 (fun q _ => hrs q)
  · right
    have e : d.sync = d.act := if_neg (by rw [a1]; decide)
    exact ⟨by rw [a1]; decide, by rw [e]; exact a2, stb_safe (h.toS hj) (by rw [e]; exact Dk.act_st d) (by rw [e]; exact Dk.act_pd d)⟩
theorem KpL.brk {N j k : Nat} {l : Lg} {d : Dk} {rs : List Rec} (h : KpL N j k l d rs) (n : Int) : KpL N j k l (d.brk n) rs := by
  have h0 : l9.ok d.st.length := by rw [h.len]; exact h.start
  obtain ⟨ls, h1, h2, h3⟩ := h.safe
  exact ⟨h.laid.same (d' := d.brk n) rfl h0 (fun q _ => rfl), h.free, h.up, h.len, h.start, h.pd, h.next, h.epoch, h.few, h.most, h.small, ls, stb_laid (d := d) (d' := d.brk n) rfl h1 h0, h2, h3⟩
/-- Behind a crash what is safe is found first. -/
theorem KpS.crash {N k : Nat} {d : Dk} {rs : List Rec} (h : KpS N k d rs) (keep : List Bool) : ∃ more L, scanAll (d.crash keep) 9 100 0 = (rs.take k ++ more, L) := by
  obtain ⟨ls, h1, h2⟩ := h.safe
  have h0 : l9.ok d.st.length := by rw [h.len]; exact h.start
  have hst : (d.crash keep).st.length = d.st.length := Dk.length_settle _ _ _ _
  have hl : Laid (d.crash keep) l9 (rs.take k) ls := by
    refine h1.same hst h0 fun q hq => ?_
    have hq : Bef N ls q := by rw [← h.len]; exact hq
    have ht : (d.crash keep).there q = d.there q := by unfold Dk.there; rw [hst]
    rw [stb_read, Dk.read, ht]
    by_cases hth : d.there q = true
    · rw [if_pos hth, if_pos hth]
      show (Dk.settle _ 0 d.st d.pd).getD q.toNat noSec = _
      have hq' : 0 ≤ q ∧ q < (d.st.length : Int) := by simpa [Dk.there] using hth
      refine settle_other _ _ _ _ _ fun x hx e => h2 x hx ?_
      rw [show (x.1 : Int) = q by omega]
      exact hq
    · rw [if_neg hth, if_neg hth]
  have hlen : (rs.take k).length ≤ 496 := by have := h.most; rw [List.length_take]; omega
  have := hl.scan (by rw [hst]; exact h0) (496 - (rs.take k).length)
  rw [show (rs.take k).length + (496 - (rs.take k).length) = 496 by omega] at this
  exact ⟨_, _, this⟩
theorem KpL.new {n : Nat} (h : l9.ok n) : KpL n 0 0 l9 (Dk.new n) [] :=
  ⟨.nil _, Free.new _, rfl, by simp [Dk.new], h, Nat.zero_le _, rfl, rfl, Nat.le_refl _, Nat.le_refl _, (fun r hr => by cases hr), l9, .nil _, (fun x hx => by cases hx), fun _ hq => hq⟩
end Go.Proofs.Ytogkibikghbghaa.Wal

namespace Go.Proofs.Ytogkibikghbghaa.Wal
open Go.RowKit Go.Proofs.Ytogkibikghbghaa.Fg Go.Proofs.Ytogkibikghbghaa.Frame Go.Proofs.Ytogkibikghbghaa.Disk Go.Proofs.Ytogkibikghbghaa.Area Go.ChangeShapes Go.WideShapes Go.ChangeAt

/-- A slice of records, wherever it lies. -/
structure RecsAt (w : World) (A : Option Addr) (l : List ((Option Addr × Nat) × Rec)) : Prop where
  rows : RowsAt w A 3 (l.map recC)
  pays : ∀ x ∈ l, Fg.Src w x.1.1 x.2.pay.length x.1.2 (bv x.2.pay) ∧ Crc.Small x.2.pay
theorem RecsAt.below {w w' : World} {A : Option Addr} {l : List ((Option Addr × Nat) × Rec)} (h : RecsAt w A l) (hb : Below w.heap.size w w') : RecsAt w' A l :=
  ⟨h.rows.below hb, fun x hx => ⟨(h.pays x hx).1.same fun ad had hne => hb.block _ ((h.pays x hx).1.lt had hne), (h.pays x hx).2⟩⟩
theorem recC_3 (l : List ((Option Addr × Nat) × Rec)) : ∀ r ∈ l.map recC, r.length = 3 := fun r hr => by obtain ⟨x, -, rfl⟩ := List.mem_map.1 hr; rfl
theorem Recs.at_ {w : World} {B : Nat} {v : Value} {rs : List Rec} (h : Recs w B v rs) (hs : ∀ r ∈ rs, Crc.Small r.pay) : ∃ A c l, v = .slice A l.length c ∧ l.map Prod.snd = rs ∧ RecsAt w A l ∧ l.length ≤ c ∧ c ≤ maxLen := by
  obtain ⟨l, h1, h2, h3⟩ := h
  obtain ⟨A, c, rfl, h4, h5, -⟩ := own_form h2
  exact ⟨A, c, l, rfl, h1, ⟨RowsAt.of_own h2 (recC_3 l) (by decide), fun x hx => ⟨(h3 x hx).1, hs _ (by rw [← h1]; exact List.mem_map_of_mem hx)⟩⟩, h4, h5⟩

/-- Records that were made beside a log: none of their blocks is the log's or its disk's. -/
def MadeR (W w : World) (lb : Nat) (F : Nat → Prop) (v : Value) (rs : List Rec) : Prop :=
  ∃ l : List ((Option Addr × Nat) × Rec), l.map Prod.snd = rs ∧ w.ownsRow W.heap.size 40 3 v l.length (l.map recC).flatten ∧ (∀ b, v.ownBlock = some b → ¬ F b ∧ b ≠ lb) ∧
    ∀ x ∈ l, Fg.Src w x.1.1 x.2.pay.length x.1.2 (bv x.2.pay) ∧ ∀ ad, x.1.1 = some ad → bv x.2.pay ≠ [] → W.heap.size ≤ ad.block ∧ v.ownBlock ≠ some ad.block ∧ ¬ F ad.block ∧ ad.block ≠ lb
theorem MadeR.nil (W w : World) (lb : Nat) (F : Nat → Prop) : MadeR W w lb F (.slice none 0 0) [] := ⟨[], rfl, World.ownsRow_nil _ _ _ _, (fun b hb => by cases hb), fun _ h => by cases h⟩
theorem MadeR.turn {W w w' : World} {lb : Nat} {F F' : Nat → Prop} {v : Value} {rs : List Rec} (h : MadeR W w lb F v rs) (hk : Keep (fun k => F k ∨ k = lb) w w') (hF : ∀ k, F' k → F k ∨ w.heap.size ≤ k) : MadeR W w' lb F' v rs := by
  obtain ⟨l, h1, h2, h3, h4⟩ := h
  refine ⟨l, h1, own_same h2 fun k hk' => hk.block k (h2.lt k hk').2 (fun hs => hs.elim (h3 k hk').1 (h3 k hk').2), fun b hb => ⟨fun hf => (hF b hf).elim (h3 b hb).1 (fun hge => absurd (h2.lt b hb).2 (Nat.not_lt.2 hge)), (h3 b hb).2⟩, fun x hx => ?_⟩
  refine ⟨(h4 x hx).1.same fun ad had hne => hk.block _ ((h4 x hx).1.lt had hne) (fun hs => ?_), fun ad had hne => ?_⟩
  · obtain ⟨-, -, a3, a4⟩ := (h4 x hx).2 ad had hne
    exact hs.elim a3 a4
  · obtain ⟨a1, a2, a3, a4⟩ := (h4 x hx).2 ad had hne
    exact ⟨a1, a2, fun hf => (hF _ hf).elim a3 (fun hge => absurd ((h4 x hx).1.lt had hne) (Nat.not_lt.2 hge)), a4⟩
theorem MadeR.below {W w w' : World} {lb : Nat} {F : Nat → Prop} {v : Value} {rs : List Rec} (h : MadeR W w lb F v rs) (hb : Below w.heap.size w w') : MadeR W w' lb F v rs :=
  h.turn (Keep.of_new hb) (fun _ h => .inl h)
theorem MadeR.recs {W w : World} {lb : Nat} {F : Nat → Prop} {v : Value} {rs : List Rec} (h : MadeR W w lb F v rs) : Recs w W.heap.size v rs := by
  obtain ⟨l, h1, h2, h3, h4⟩ := h
  exact ⟨l, h1, h2, fun x hx => ⟨(h4 x hx).1, fun ad had hne => ⟨((h4 x hx).2 ad had hne).1, ((h4 x hx).2 ad had hne).2.1⟩⟩⟩
theorem MadeR.push {W w w' : World} {lb : Nat} {F : Nat → Prop} {v v' : Value} {l : List ((Option Addr × Nat) × Rec)} {r : Rec} {A : Option Addr} {c : Nat}
    (hv : ∀ b, v.ownBlock = some b → ¬ F b ∧ b ≠ lb)
    (h4 : ∀ x ∈ l, Fg.Src w x.1.1 x.2.pay.length x.1.2 (bv x.2.pay) ∧ ∀ ad, x.1.1 = some ad → bv x.2.pay ≠ [] → W.heap.size ≤ ad.block ∧ v.ownBlock ≠ some ad.block ∧ ¬ F ad.block ∧ ad.block ≠ lb)
    (hs : Fg.Src w A r.pay.length c (bv r.pay)) (hn : ∀ ad, A = some ad → bv r.pay ≠ [] → W.heap.size ≤ ad.block ∧ v.ownBlock ≠ some ad.block ∧ ¬ F ad.block ∧ ad.block ≠ lb)
    (hF : ∀ k, F k → k < w.heap.size) (hlb : lb < w.heap.size)
    (ho : w'.ownsRow W.heap.size 40 3 v' (l.length + 1) ((l.map recC).flatten ++ recC ((A, c), r)))
    (hg : w.grownBy w' v.ownBlock) (hat : v'.ownBlock = v.ownBlock ∨ v'.ownBlock = some w.heap.size) : MadeR W w' lb F v' (l.map Prod.snd ++ [r]) := by
  have key : ∀ (A : Option Addr) (c : Nat) (r : Rec), Fg.Src w A r.pay.length c (bv r.pay) → (∀ ad, A = some ad → bv r.pay ≠ [] → W.heap.size ≤ ad.block ∧ v.ownBlock ≠ some ad.block ∧ ¬ F ad.block ∧ ad.block ≠ lb) →
      Fg.Src w' A r.pay.length c (bv r.pay) ∧ ∀ ad, A = some ad → bv r.pay ≠ [] → W.heap.size ≤ ad.block ∧ v'.ownBlock ≠ some ad.block ∧ ¬ F ad.block ∧ ad.block ≠ lb := by
    intro A c r hs hn
    refine ⟨hs.same fun ad had hne => hg.block _ (hs.lt had hne) (fun e => (hn ad had hne).2.1 e.symm), fun ad had hne => ⟨(hn ad had hne).1, fun e => ?_, (hn ad had hne).2.2⟩⟩
    rcases hat with h | h
    · exact (hn ad had hne).2.1 (h.symm.trans e)
    · rw [h] at e
      injection e with e
      have := hs.lt had hne
      omega
  refine ⟨l ++ [((A, c), r)], by simp, by rw [List.map_append, List.flatten_append, List.length_append]; simpa using ho, fun b hb => ?_, fun x hx => ?_⟩
  · rcases hat with h | h
    · exact hv b (h.symm.trans hb)
    · rw [h] at hb
      injection hb with hb
      exact ⟨fun hf => absurd (hF b hf) (by omega), by omega⟩
  · rcases List.mem_append.1 hx with hx | hx
    · exact key _ _ _ (h4 x hx).1 (h4 x hx).2
    · rw [List.mem_singleton.1 hx]; exact key _ _ _ hs hn

set_option maxRecDepth 100000 in
set_option maxHeartbeats 4000000 in
theorem sameRecs_any {w : World} {A B : Option Addr} {c d : Nat} {la lb : List ((Option Addr × Nat) × Rec)} (ha : RecsAt w A la) (hb : RecsAt w B lb) (hca : la.length ≤ c) (hcm : c ≤ maxLen) (hcb : lb.length ≤ d) (hdm : d ≤ maxLen) :
    Calls Try.prog 21 #[.slice A la.length c, .slice B lb.length d] w fun e w' => e = .returned (.bool (decide (la.map Prod.snd = lb.map Prod.snd))) ∧ Below w.heap.size w w' := by
  have HA := Lib.hid ha
  have HB := Lib.hid hb
  have hm := hcm
  have hm2 := hdm
  unfold maxLen at hm hm2
  clear ha hb hcm hdm
  by_cases hl : la.length = lb.length
  · have hlb : ((la.length : Int) == (lb.length : Int)) = true := by simp [hl]
    obtain ⟨n, hn⟩ : ∃ n, la.length = n := ⟨_, rfl⟩
    have HN := Lib.hid hn
    have HM : Hid (lb.length = n) := Lib.hid (by omega)
    rw [hn] at hca ⊢
    rw [← hl, hn] at hcb ⊢
    clear hlb hl hn
    go_enter Try.func21, Try.ntmps21
    go_wp2_with fail
    go_loopg [13] n (fun k v wr => ∃ j : Nat, j + k = n ∧ v = .int .i64 j ∧ Below w.heap.size w wr ∧ (la.map Prod.snd).take j = (lb.map Prod.snd).take j)
    case atStart => exact ⟨0, Nat.zero_add _, rfl, Below.refl _ _, rfl⟩
    case round =>
      obtain ⟨j, hj, rfl, hbw, hsm⟩ := hrel
      have BW := Lib.hid hbw
      have SM := Lib.hid hsm
      clear hbw hsm
      by_cases hlt : j < n
      · obtain ⟨⟨⟨XA, xc⟩, x⟩, hx⟩ : ∃ x, la[j]? = some x := ⟨_, List.getElem?_eq_getElem (by rw [HN.out]; exact hlt)⟩
        obtain ⟨⟨⟨YA, yc⟩, y⟩, hy⟩ : ∃ x, lb[j]? = some x := ⟨_, List.getElem?_eq_getElem (by rw [HM.out]; exact hlt)⟩
        have RA := HA.out.below BW.out
        have RB := HB.out.below BW.out
        obtain ⟨p, rfl, hp, hrg⟩ := RA.rows j (recC ((XA, xc), x)) (by rw [List.getElem?_map, hx]; rfl)
        obtain ⟨q, rfl, hq, hrq⟩ := RB.rows j (recC ((YA, yc), y)) (by rw [List.getElem?_map, hy]; rfl)
        obtain ⟨sx, mx⟩ := RA.pays _ (List.mem_of_getElem? hx)
        obtain ⟨sy, my⟩ := RB.pays _ (List.mem_of_getElem? hy)
        have a0 : wr.cell? ⟨p, j * 3, none⟩ = some (.int .u64 x.seq) := hrg 0 _ rfl
        have a1 : wr.cell? ⟨p, j * 3 + 1, none⟩ = some (.int .u32 x.epoch) := hrg 1 _ rfl
        have a2 : wr.cell? ⟨p, j * 3 + 2, none⟩ = some (.slice XA x.pay.length xc) := hrg 2 _ rfl
        have b0 : wr.cell? ⟨q, j * 3, none⟩ = some (.int .u64 y.seq) := hrq 0 _ rfl
        have b1 : wr.cell? ⟨q, j * 3 + 1, none⟩ = some (.int .u32 y.epoch) := hrq 1 _ rfl
        have b2 : wr.cell? ⟨q, j * 3 + 2, none⟩ = some (.slice YA y.pay.length yc) := hrq 2 _ rfl
        have SA := Lib.hid (same_any x y XA YA xc yc wr.drew mx my (sx.same fun ad had hne => (Fg.below_dr (Below.refl _ _)).block _ (sx.lt had hne)) (sy.same fun ad had hne => (Fg.below_dr (Below.refl _ _)).block _ (sy.lt had hne)))
        unfold recv at SA
        have SX : Hid ((la.map Prod.snd)[j]? = some x ∧ (lb.map Prod.snd)[j]? = some y) := Lib.hid (by rw [List.getElem?_map, List.getElem?_map, hx, hy]; exact ⟨rfl, rfl⟩)
        have HP := Lib.hid hp
        have HQ := Lib.hid hq
        clear hrg hrq sx sy mx my RA RB hx hy hp hq
        have hjc : (j : Int) < n := by omega
        by_cases hxy : x = y
        · have SX2 : Hid ((la.map Prod.snd).take (j + 1) = (lb.map Prod.snd).take (j + 1)) := Lib.hid (by rw [List.take_add_one, List.take_add_one, SM.out, SX.out.1, SX.out.2, hxy])
          rw [decide_eq_true hxy] at SA
          clear hxy
          go_upto_region 6 with fail
          go_region_held3 (fun w' => w'.cell? ⟨p, j * 3, none⟩ = some (.int .u64 x.seq) ∧ w'.cell? ⟨p, j * 3 + 1, none⟩ = some (.int .u32 x.epoch) ∧ w'.cell? ⟨p, j * 3 + 2, none⟩ = some (.slice XA x.pay.length xc) ∧ w'.cell? ⟨q, j * 3, none⟩ = some (.int .u64 y.seq) ∧ w'.cell? ⟨q, j * 3 + 1, none⟩ = some (.int .u32 y.epoch) ∧ w'.cell? ⟨q, j * 3 + 2, none⟩ = some (.slice YA y.pay.length yc))
            (first | exact ⟨a0, a1, a2, b0, b1, b2⟩ | exact QS.out)
            ((go_at_call 18; refine SA.out.mono ?_; rintro e w7 ⟨rfl, hb7⟩; have B7 := Lib.hid hb7; clear hb7
              have QS := Lib.hid (And.intro ((B7.out.cell (p := ⟨p, j * 3, none⟩) HP.out).trans a0) (And.intro ((B7.out.cell (p := ⟨p, j * 3 + 1, none⟩) HP.out).trans a1) (And.intro ((B7.out.cell (p := ⟨p, j * 3 + 2, none⟩) HP.out).trans a2) (And.intro ((B7.out.cell (p := ⟨q, j * 3, none⟩) HQ.out).trans b0) (And.intro ((B7.out.cell (p := ⟨q, j * 3 + 1, none⟩) HQ.out).trans b1) ((B7.out.cell (p := ⟨q, j * 3 + 2, none⟩) HQ.out).trans b2))))))))
          go_wp2_with fail
          go_roundg (gk - 1)
          case measure => omega
          case rel => exact ⟨j + 1, by omega, by go_num, (Fg.below_dr BW.out).trans (B7.out.mono (Fg.below_dr BW.out).size), SX2.out⟩
        · have SX2 : Hid (decide (la.map Prod.snd = lb.map Prod.snd) = false) := Lib.hid (decide_eq_false (fun e => hxy (by
            have h1 := SX.out.1
            rw [e, SX.out.2] at h1
            injection h1 with h1
            exact h1.symm)))
          rw [decide_eq_false hxy] at SA
          clear hxy
          go_upto_region 6 with fail
          go_region_held3 (fun w' => w'.cell? ⟨p, j * 3, none⟩ = some (.int .u64 x.seq) ∧ w'.cell? ⟨p, j * 3 + 1, none⟩ = some (.int .u32 x.epoch) ∧ w'.cell? ⟨p, j * 3 + 2, none⟩ = some (.slice XA x.pay.length xc) ∧ w'.cell? ⟨q, j * 3, none⟩ = some (.int .u64 y.seq) ∧ w'.cell? ⟨q, j * 3 + 1, none⟩ = some (.int .u32 y.epoch) ∧ w'.cell? ⟨q, j * 3 + 2, none⟩ = some (.slice YA y.pay.length yc))
            (first | exact ⟨a0, a1, a2, b0, b1, b2⟩ | exact QS.out)
            ((go_at_call 18; refine SA.out.mono ?_; rintro e w7 ⟨rfl, hb7⟩; have B7 := Lib.hid hb7; clear hb7
              have QS := Lib.hid (And.intro ((B7.out.cell (p := ⟨p, j * 3, none⟩) HP.out).trans a0) (And.intro ((B7.out.cell (p := ⟨p, j * 3 + 1, none⟩) HP.out).trans a1) (And.intro ((B7.out.cell (p := ⟨p, j * 3 + 2, none⟩) HP.out).trans a2) (And.intro ((B7.out.cell (p := ⟨q, j * 3, none⟩) HQ.out).trans b0) (And.intro ((B7.out.cell (p := ⟨q, j * 3 + 1, none⟩) HQ.out).trans b1) ((B7.out.cell (p := ⟨q, j * 3 + 2, none⟩) HQ.out).trans b2))))))))
          go_wp2_with fail
          go_ret
          exact ⟨by rw [SX2.out]; rfl, (Fg.below_dr BW.out).trans (B7.out.mono (Fg.below_dr BW.out).size)⟩
      · have SX2 : Hid (decide (la.map Prod.snd = lb.map Prod.snd) = true) := Lib.hid (decide_eq_true (by
          have h := SM.out
          rwa [List.take_of_length_le (by rw [List.length_map, HN.out]; omega), List.take_of_length_le (by rw [List.length_map, HM.out]; omega)] at h))
        go_wp2_with fail
        go_ret
        exact ⟨by rw [SX2.out]; rfl, BW.out⟩
  · have SX2 : Hid (decide (la.map Prod.snd = lb.map Prod.snd) = false) := Lib.hid (decide_eq_false (fun e => hl (by have := congrArg List.length e; simpa using this)))
    have hlb : ((la.length : Int) == (lb.length : Int)) = false := by simp; omega
    go_enter Try.func21, Try.ntmps21
    go_wp2_with fail
    go_ret
    exact ⟨by rw [SX2.out]; rfl, Below.refl _ _⟩
end Go.Proofs.Ytogkibikghbghaa.Wal
