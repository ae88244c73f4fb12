/- Records that lie one behind the other in a log, and what a scan finds of them. No program in sight. -/
import Derived.Test.YtogkibikghbghaaFgWalEpochPure
set_option linter.unusedVariables false
set_option linter.unusedSimpArgs false
namespace Go.Proofs.Ytogkibikghbghaa.Wal
open Go.RowKit Go.Proofs.Ytogkibikghbghaa.Fg Go.Proofs.Ytogkibikghbghaa.Frame Go.Proofs.Ytogkibikghbghaa.Disk Go.Proofs.Ytogkibikghbghaa.Area

/-- Where a log is behind a record of so many sectors. -/
def Lg.behind (l : Lg) (N many : Int) : Lg := ⟨l.epoch, (l.next + 1) % 18446744073709551616, l.start, l.placeSeg N many, l.placeAt many + many⟩
/-- A record lies where a log's next one would be. -/
structure RecAt (d : Dk) (l : Lg) (r : Rec) : Prop where
  ok : r.ok
  good : r.good
  seq : r.seq = l.next
  epoch : r.epoch = l.epoch
  next : l.next ≠ 0
  place : l.placeOk d.st.length r.many = true
  secs : ∀ i : Nat, i < r.many → d.read (l.at_ d.st.length r.many + i) = r.made.getD i noSec
  hole : l.taken + r.many ≤ 16 ∨ l.taken = 16 ∨ d.read (segV d.st.length l.seg + l.taken) = noSec
inductive Laid (d : Dk) : Lg → List Rec → Lg → Prop
  | nil (l : Lg) : Laid d l [] l
  | cons {l l3 : Lg} {r : Rec} {rs : List Rec} (h : RecAt d l r) (t : Laid d (l.behind d.st.length r.many) rs l3) : Laid d l (r :: rs) l3
theorem Laid.snoc {d : Dk} {l l2 : Lg} {rs : List Rec} (h : Laid d l rs l2) {r : Rec} (hr : RecAt d l2 r) : Laid d l (rs ++ [r]) (l2.behind d.st.length r.many) := by
  induction h with
  | nil l => exact .cons hr (.nil _)
  | cons h t ih => exact .cons h (ih hr)
theorem good_many {r : Rec} (h : r.good) : 0 < r.many ∧ r.many ≤ 12 := by
  rw [Rec.many_of h.1]
  have := h.1
  omega
theorem placeOk_next {l : Lg} {N many : Int} (h : l.placeOk N many = true) : l.taken + many ≤ 16 ∨ nextV N l.seg ≠ l.start := by
  unfold Lg.placeOk at h
  simp only [Bool.and_eq_true, Bool.or_eq_true, Bool.not_eq_true', decide_eq_true_eq, decide_eq_false_iff_not] at h
  exact h.2
theorem behind_ok {N : Int} {l : Lg} (h : l.ok N) {many : Int} (hm : 0 ≤ many ∧ many ≤ 12) : (l.behind N many).ok N := by
  obtain ⟨h1, h2, h3⟩ := place_range h hm
  exact ⟨h.e0, h.e1, by show 0 ≤ (l.next + 1) % _; omega, by show (l.next + 1) % _ < _; omega, h.st, h1, by show 0 ≤ l.placeAt _ + _; omega, h3⟩
theorem readSecs_none (d : Dk) (k : Int) : readSecs d k 16 = [] := rfl
theorem nil_no : ¬ isRec [] := fun h => absurd h.1 (by decide)
theorem readSecs_first {d : Dk} {k at_ : Int} (h : at_ < 16) : ∃ more, readSecs d k at_ = d.read (segV d.st.length k + at_) :: more := by
  have e : readSecs d k at_ = (0 :: (List.range (15 - at_).toNat).map Nat.succ).map fun (i : Nat) => d.read (segV d.st.length k + (at_ + (i : Int))) := by
    unfold readSecs
    rw [show ((16 : Int) - at_).toNat = (15 - at_).toNat + 1 by omega, List.range_succ_eq_map]
  rw [e, List.map_cons]
  have e2 : segV d.st.length k + (at_ + ((0 : Nat) : Int)) = segV d.st.length k + at_ := by omega
  rw [e2]
  exact ⟨_, rfl⟩
theorem hole_no {l l' : Lg} {d : Dk} {k at_ : Int} (ht : at_ ≤ 16) (h : at_ = 16 ∨ d.read (segV d.st.length k + at_) = noSec) : ¬ l'.opens d k at_ := by
  intro ho
  rcases h with rfl | h
  · exact nil_no (by have := ho.1; rwa [readSecs_none] at this)
  · by_cases h16 : at_ = 16
    · subst h16; exact nil_no (by have := ho.1; rwa [readSecs_none] at this)
    · obtain ⟨more, hm⟩ := readSecs_first (d := d) (k := k) (at_ := at_) (by omega)
      rw [h] at hm
      exact noSec_no more (by have := ho.1; rwa [hm] at this)
theorem lies {d : Dk} {l : Lg} {r : Rec} (ho : r.ok) (hg : r.good) (hs : r.seq = l.next) (he : r.epoch = l.epoch) {k at_ : Int} (hm : (r.many : Int) ≤ 16 - at_)
    (h : ∀ i : Nat, i < r.many → d.read (segV d.st.length k + at_ + i) = r.made.getD i noSec) : l.openN d k at_ = r.many ∧ l.openR d k at_ = r := by
  obtain ⟨more, hmm⟩ := readSecs_made (d := d) (k := k) hg hm (fun i hi => by rw [← Int.add_assoc]; exact h i hi)
  obtain ⟨o1, o2, o3⟩ := made_opens ho hg more
  have hop : l.opens d k at_ := by
    unfold Lg.opens
    rw [hmm, o2]
    exact ⟨o1, hs, he⟩
  unfold Lg.openN Lg.openR
  rw [if_pos hop, if_pos hop, hmm]
  exact ⟨o3, o2⟩
theorem RecAt.step {d : Dk} {l : Lg} {r : Rec} (h : RecAt d l r) (ho : l.ok d.st.length) : ∃ l', l.step d = some (r, l') ∧ l'.succ = l.behind d.st.length r.many := by
  obtain ⟨m1, m2⟩ := good_many h.good
  have t0 := ho.t0
  have t1 := ho.t1
  have hs := h.secs
  by_cases hc : l.taken + r.many ≤ 16
  · have e1 : l.placeSeg d.st.length r.many = l.seg := by rw [Lg.placeSeg, if_pos hc]
    have e2 : l.placeAt r.many = l.taken := by rw [Lg.placeAt, if_pos hc]
    rw [Lg.at_, e1, e2] at hs
    obtain ⟨a1, a2⟩ := lies h.ok h.good h.seq h.epoch (by omega) hs
    refine ⟨{ l with taken := l.taken + r.many }, ?_, ?_⟩
    · rw [Lg.step, a1, if_pos (by omega), a2]
    · rw [Lg.behind, e1, e2]; rfl
  · have e1 : l.placeSeg d.st.length r.many = nextV d.st.length l.seg := by rw [Lg.placeSeg, if_neg hc]
    have e2 : l.placeAt r.many = 0 := by rw [Lg.placeAt, if_neg hc]
    rw [Lg.at_, e1, e2] at hs
    obtain ⟨a1, a2⟩ := lies h.ok h.good h.seq h.epoch (by omega) hs
    have hn : nextV d.st.length l.seg ≠ l.start := (placeOk_next h.place).resolve_left hc
    have hz : l.openN d l.seg l.taken = 0 := openN_zero (hole_no (l := l) t1 (h.hole.resolve_left hc))
    refine ⟨{ l with seg := nextV d.st.length l.seg, taken := r.many }, ?_, ?_⟩
    · rw [Lg.step, hz, if_neg (by omega), if_neg hn, a1, a2, if_neg (by omega)]
    · rw [Lg.behind, e1, e2, Int.zero_add]; rfl
theorem Laid.scan {d : Dk} {l l2 : Lg} {rs : List Rec} (h : Laid d l rs l2) : l.ok d.st.length → ∀ k, scanF (rs.length + k) l d = (rs ++ (scanF k l2 d).1, (scanF k l2 d).2) := by
  induction h with
  | nil l => intro _ k; rw [List.length_nil, Nat.zero_add, List.nil_append]
  | cons h t ih =>
    rename_i l l3 r rs
    intro ho k
    obtain ⟨m1, m2⟩ := good_many h.good
    obtain ⟨l', hs, he⟩ := h.step ho
    have ih := ih (behind_ok ho (by omega)) k
    rw [List.length_cons, show rs.length + 1 + k = (rs.length + k) + 1 by omega, scanF_go (rs.length + k) h.next hs, he, ih, List.cons_append]
theorem Laid.ok {d : Dk} {l l2 : Lg} {rs : List Rec} (h : Laid d l rs l2) : l.ok d.st.length → l2.ok d.st.length := by
  induction h with
  | nil l => exact id
  | cons h t ih => intro ho; have := good_many h.good; exact ih (behind_ok ho (by omega))

/-- How far a log has come, in sectors. -/
def rank (N start k : Int) : Int := (k - start) % segsN N
def Lg.lin (l : Lg) (N : Int) : Int := rank N l.start l.seg * 16 + l.taken
/-- A sector that lies before it. -/
def Bef (N : Int) (l : Lg) (q : Int) : Prop := ∃ k i : Int, okB N k = true ∧ 0 ≤ i ∧ i < 16 ∧ q = segV N k + i ∧ rank N l.start k * 16 + i < l.lin N
theorem rank_range {N start k : Int} (h : okB N k = true) : 0 ≤ rank N start k ∧ rank N start k < segsN N := by
  obtain ⟨h1, h2, h3, h4, h5⟩ := okB_in h
  have hn : 0 < segsN N := by omega
  exact ⟨Int.emod_nonneg _ (by omega), Int.emod_lt_of_pos _ hn⟩
theorem rank_next {N start k : Int} (hk : okB N k = true) (hs : okB N start = true) (hne : nextV N k ≠ start) : rank N start (nextV N k) = rank N start k + 1 := by
  obtain ⟨h1, h2, h3, h4, h5⟩ := okB_in hk
  obtain ⟨-, -, g3, g4, -⟩ := okB_in hs
  have e : nextV N k = (k + 1) % segsN N := by rw [nextV, if_pos hk]
  rw [e] at hne
  rw [rank, rank, e]
  exact mod_inc (by omega) h3 (by omega) g3 (by omega) hne
theorem seg_one {N k k' i i' : Int} (h : okB N k = true) (h' : okB N k' = true) (hi : 0 ≤ i ∧ i < 16) (hi' : 0 ≤ i' ∧ i' < 16) (e : segV N k + i = segV N k' + i') : k = k' ∧ i = i' := by
  obtain ⟨h1, h2, h3⟩ := segV_eq h
  obtain ⟨g1, g2, g3⟩ := segV_eq h'
  rw [h1, g1] at e
  omega
theorem bef_iff {N : Int} {l : Lg} {k i : Int} (hk : okB N k = true) (hi : 0 ≤ i ∧ i < 16) : Bef N l (segV N k + i) ↔ rank N l.start k * 16 + i < l.lin N := by
  constructor
  · rintro ⟨k', i', h1, h2, h3, h4, h5⟩
    obtain ⟨rfl, rfl⟩ := seg_one hk h1 hi ⟨h2, h3⟩ h4
    exact h5
  · exact fun h => ⟨k, i, hk, hi.1, hi.2, rfl, h⟩
/-- Where the next record is, in sectors. -/
theorem place_lin {N : Int} {l : Lg} (ho : l.ok N) {many : Int} (hm : 0 < many ∧ many ≤ 12) (hp : l.placeOk N many = true) :
    l.lin N ≤ rank N l.start (l.placeSeg N many) * 16 + l.placeAt many ∧ (l.behind N many).lin N = rank N l.start (l.placeSeg N many) * 16 + l.placeAt many + many := by
  refine ⟨?_, by unfold Lg.lin Lg.behind; simp only; omega⟩
  have t1 := ho.t1
  unfold Lg.lin
  by_cases hc : l.taken + many ≤ 16
  · rw [Lg.placeSeg, Lg.placeAt, if_pos hc, if_pos hc]; omega
  · rw [Lg.placeSeg, Lg.placeAt, if_neg hc, if_neg hc, rank_next ho.sg ho.st ((placeOk_next hp).resolve_left hc)]; omega
theorem bef_behind {N : Int} {l : Lg} (ho : l.ok N) {many : Int} (hm : 0 < many ∧ many ≤ 12) (hp : l.placeOk N many = true) {q : Int} (h : Bef N l q) : Bef N (l.behind N many) q := by
  obtain ⟨k, i, h1, h2, h3, h4, h5⟩ := h
  have := place_lin ho hm hp
  exact ⟨k, i, h1, h2, h3, h4, by show rank N l.start k * 16 + i < _; omega⟩
theorem at_bef {N : Int} {l : Lg} (ho : l.ok N) {many : Int} (hm : 0 < many ∧ many ≤ 12) (hp : l.placeOk N many = true) {i : Int} (hi : 0 ≤ i ∧ i < many) :
    Bef N (l.behind N many) (l.at_ N many + i) ∧ ¬ Bef N l (l.at_ N many + i) := by
  have hl := place_lin ho hm hp
  obtain ⟨p1, p2, p3⟩ := place_range ho (many := many) (by omega)
  rw [Lg.at_, Int.add_assoc]
  rw [bef_iff p1 (by omega), bef_iff p1 (by omega)]
  refine ⟨?_, ?_⟩
  · show rank N l.start _ * 16 + _ < _; omega
  · omega
theorem hole_bef {N : Int} {l : Lg} (ho : l.ok N) {many : Int} (hm : 0 < many ∧ many ≤ 12) (hp : l.placeOk N many = true) (hc : ¬ l.taken + many ≤ 16) (ht : l.taken ≠ 16) :
    Bef N (l.behind N many) (segV N l.seg + l.taken) ∧ ¬ Bef N l (segV N l.seg + l.taken) ∧ ∀ i : Int, 0 ≤ i → i < many → segV N l.seg + l.taken ≠ l.at_ N many + i := by
  have hl := place_lin ho hm hp
  have t0 := ho.t0
  have t1 := ho.t1
  have hn := rank_next ho.sg ho.st ((placeOk_next hp).resolve_left hc)
  have e1 : l.placeSeg N many = nextV N l.seg := by rw [Lg.placeSeg, if_neg hc]
  have e2 : l.placeAt many = 0 := by rw [Lg.placeAt, if_neg hc]
  rw [bef_iff ho.sg (by omega), bef_iff ho.sg (by omega)]
  refine ⟨?_, by unfold Lg.lin; omega, fun i h0 h1 e => ?_⟩
  · rw [e1, e2] at hl
    show rank N l.start l.seg * 16 + _ < _
    omega
  · rw [Lg.at_, e1, e2, Int.add_zero] at e
    obtain ⟨ek, -⟩ := seg_one ho.sg (nextV_ok ho.sg) ⟨t0, by omega⟩ ⟨h0, by omega⟩ e
    rw [← ek] at hn
    omega
theorem RecAt.same {d d' : Dk} {l : Lg} {r : Rec} (h : RecAt d l r) (ho : l.ok d.st.length) (hst : d'.st.length = d.st.length) (hr : ∀ q, Bef d.st.length (l.behind d.st.length r.many) q → d'.read q = d.read q) : RecAt d' l r := by
  obtain ⟨m1, m2⟩ := good_many h.good
  refine ⟨h.ok, h.good, h.seq, h.epoch, h.next, by rw [hst]; exact h.place, fun i hi => ?_, ?_⟩
  · rw [hst, hr _ (at_bef ho (by omega) h.place (by omega)).1]
    exact h.secs i hi
  · rw [hst]
    by_cases hc : l.taken + r.many ≤ 16
    · exact .inl hc
    · by_cases ht : l.taken = 16
      · exact .inr (.inl ht)
      · refine .inr (.inr ?_)
        rw [hr _ (hole_bef ho (by omega) h.place hc ht).1]
        exact (h.hole.resolve_left hc).resolve_left ht
theorem Laid.bef {d : Dk} {l l2 : Lg} {rs : List Rec} (h : Laid d l rs l2) : l.ok d.st.length → ∀ q, Bef d.st.length l q → Bef d.st.length l2 q := by
  induction h with
  | nil l => exact fun _ _ h => h
  | cons h t ih =>
    intro ho q hq
    have := good_many h.good
    exact ih (behind_ok ho (by omega)) q (bef_behind ho (by omega) h.place hq)
theorem Laid.same {d d' : Dk} {l l2 : Lg} {rs : List Rec} (h : Laid d l rs l2) (hst : d'.st.length = d.st.length) : l.ok d.st.length → (∀ q, Bef d.st.length l2 q → d'.read q = d.read q) → Laid d' l rs l2 := by
  induction h with
  | nil l => exact fun _ _ => .nil l
  | cons h t ih =>
    intro ho hr
    have hm := good_many h.good
    refine .cons (h.same ho hst fun q hq => hr q (t.bef (behind_ok ho (by omega)) q hq)) ?_
    rw [hst]
    exact ih (behind_ok ho (by omega)) hr

/-- Nothing lies behind a log. -/
def Free (d : Dk) (l : Lg) : Prop := ∀ k i : Int, okB d.st.length k = true → 0 ≤ i → i < 16 → ¬ Bef d.st.length l (segV d.st.length k + i) → d.read (segV d.st.length k + i) = noSec
theorem Free.stop {d : Dk} {l : Lg} (h : Free d l) (ho : l.ok d.st.length) : l.step d = none := by
  have t0 := ho.t0
  have t1 := ho.t1
  have h1 : l.openN d l.seg l.taken = 0 := by
    refine openN_zero (hole_no (l := l) t1 ?_)
    by_cases ht : l.taken = 16
    · exact .inl ht
    · refine .inr (h _ _ ho.sg t0 (by omega) ?_)
      rw [bef_iff ho.sg (by omega)]
      unfold Lg.lin; omega
  unfold Lg.step
  rw [h1, if_neg (by omega)]
  split
  · rfl
  · rename_i hn
    have h2 : l.openN d (nextV d.st.length l.seg) 0 = 0 := by
      refine openN_zero (hole_no (l := l) (by decide) (.inr (h _ _ (nextV_ok ho.sg) (by decide) (by decide) ?_)))
      rw [bef_iff (nextV_ok ho.sg) (by decide), rank_next ho.sg ho.st hn]
      unfold Lg.lin; omega
    rw [if_pos h2]
/-- An append of a record to a disk that loses no power. -/
theorem app_laid_of {l0 l : Lg} {d : Dk} {rs : List Rec} (h0 : l0.ok d.st.length) (hl : Laid d l0 rs l) (hf : Free d l) {p : List Int} (hs : Crc.Small p) (hp : p.length ≤ 700) (hn : l.next ≠ 0)
    (hk : l.placeOk d.st.length (l.rcd p).many = true) (a1 : l.appE d p = 0)
    (a3 : ∀ j, (l.appD d p).read j = if l.at_ d.st.length (l.rcd p).many ≤ j ∧ j < l.at_ d.st.length (l.rcd p).many + (l.rcd p).many then (l.rcd p).made.getD (j - l.at_ d.st.length (l.rcd p).many).toNat noSec else d.read j) :
    l.appL d p = l.behind d.st.length (l.rcd p).many ∧ Laid (l.appD d p) l0 (rs ++ [l.rcd p]) (l.appL d p) ∧ Free (l.appD d p) (l.appL d p) := by
  have ho := hl.ok h0
  obtain ⟨m1, m2, m3⟩ := rcd_many (l := l) hp
  have hst := appD_st l d p
  have hL : l.appL d p = l.behind d.st.length (l.rcd p).many := by rw [Lg.appL, if_pos a1]; rfl
  have hm : 0 < ((l.rcd p).many : Int) ∧ ((l.rcd p).many : Int) ≤ 12 := by omega
  refine ⟨hL, ?_, ?_⟩
  · have hold : Laid (l.appD d p) l0 rs l := by
      refine hl.same (by rw [hst]) h0 fun q hq => ?_
      rw [a3, if_neg]
      rintro ⟨q1, q2⟩
      refine (at_bef ho hm hk (i := q - l.at_ d.st.length (l.rcd p).many) (by omega)).2 ?_
      rw [show l.at_ d.st.length (l.rcd p).many + (q - l.at_ d.st.length (l.rcd p).many) = q by omega]
      exact hq
    have hr : RecAt (l.appD d p) l (l.rcd p) := by
      refine ⟨rcd_ok ho hs, rcd_good hp, if_neg hn, rfl, hn, by rw [hst]; exact hk, fun i hi => ?_, ?_⟩
      · rw [hst, a3, if_pos (by omega)]
        congr 1
        omega
      · rw [hst]
        by_cases hc : l.taken + (l.rcd p).many ≤ 16
        · exact .inl hc
        · by_cases ht : l.taken = 16
          · exact .inr (.inl ht)
          · obtain ⟨b1, b2, b3⟩ := hole_bef ho hm hk hc ht
            refine .inr (.inr ?_)
            rw [a3, if_neg]
            · have := ho.t0
              have := ho.t1
              exact hf _ _ ho.sg ho.t0 (by omega) b2
            · rintro ⟨q1, q2⟩
              exact b3 (segV d.st.length l.seg + l.taken - l.at_ d.st.length (l.rcd p).many) (by omega) (by omega) (by omega)
    have := hold.snoc hr
    rw [hst] at this
    rw [hL]
    exact this
  · intro k i h1 h2 h3 h4
    rw [hst] at h1 h4 ⊢
    rw [hL] at h4
    rw [a3, if_neg]
    · exact hf k i h1 h2 h3 (fun hb => h4 (bef_behind ho hm hk hb))
    · rintro ⟨q1, q2⟩
      refine h4 ?_
      have := (at_bef ho hm hk (i := segV d.st.length k + i - l.at_ d.st.length (l.rcd p).many) (by omega)).1
      rwa [show l.at_ d.st.length (l.rcd p).many + (segV d.st.length k + i - l.at_ d.st.length (l.rcd p).many) = segV d.st.length k + i by omega] at this
theorem app_laid {l0 l : Lg} {d : Dk} {rs : List Rec} (h0 : l0.ok d.st.length) (hl : Laid d l0 rs l) (hf : Free d l) (hv : Live d) {p : List Int} (hs : Crc.Small p) (hp : p.length ≤ 700) (hn : l.next ≠ 0)
    (hk : l.placeOk d.st.length (l.rcd p).many = true) :
    l.appE d p = 0 ∧ Live (l.appD d p) ∧ l.appL d p = l.behind d.st.length (l.rcd p).many ∧ Laid (l.appD d p) l0 (rs ++ [l.rcd p]) (l.appL d p) ∧ Free (l.appD d p) (l.appL d p) := by
  obtain ⟨a1, a2, a3⟩ := Heads.done hv (hl.ok h0) hp hk
  exact ⟨a1, a2, app_laid_of h0 hl hf hs hp hn hk a1 a3⟩
/-- All records are found, and nothing else. -/
theorem Laid.all {d : Dk} {epoch seq seg : Int} {l : Lg} {rs : List Rec} (h : Laid d (Lg.new epoch seq seg) rs l) (h0 : (Lg.new epoch seq seg).ok d.st.length) (hf : Free d l) (hn : rs.length ≤ 496) : scanAll d epoch seq seg = (rs, l) := by
  have := h.scan h0 (496 - rs.length)
  rw [show rs.length + (496 - rs.length) = 496 by omega] at this
  rw [scanAll, this, scanF_stop _ (.inr (hf.stop (h.ok h0))), List.append_nil]
/-- How many sectors are left. -/
theorem left_lin {N : Int} {l : Lg} (ho : l.ok N) : l.left N = segsN N * 16 - l.lin N := by
  have e : usedV N l.start l.seg = rank N l.start l.seg + 1 := by rw [usedV, if_pos ⟨ho.st, ho.sg⟩]; rfl
  unfold Lg.left Lg.lin
  rw [e]; omega
theorem room_left {N : Int} {l : Lg} (ho : l.ok N) (hn : l.next ≠ 0) {many : Int} (hm : 0 < many ∧ many ≤ 12) : (27 ≤ l.left N → l.placeOk N many = true) ∧ (l.placeOk N many = true → many ≤ l.left N) := by
  have hl := left_lin ho
  have hr := rank_range (start := l.start) ho.sg
  have t0 := ho.t0
  have t1 := ho.t1
  refine ⟨fun h => ?_, fun h => ?_⟩
  · unfold Lg.placeOk
    simp only [Bool.and_eq_true, Bool.or_eq_true, Bool.not_eq_true', decide_eq_true_eq, decide_eq_false_iff_not]
    refine ⟨⟨by omega, hn⟩, ?_⟩
    by_cases hc : l.taken + many ≤ 16
    · exact .inl hc
    · refine .inr fun e => ?_
      obtain ⟨h1, h2, h3, h4, h5⟩ := okB_in ho.sg
      obtain ⟨-, -, g3, g4, -⟩ := okB_in ho.st
      have e1 : nextV N l.seg = (l.seg + 1) % segsN N := by rw [nextV, if_pos ho.sg]
      have hrk : rank N l.start l.seg = segsN N - 1 := by
        rw [← e, rank, e1]
        rw [h5] at *
        by_cases hlast : l.seg + 1 = (N - 32) / 16
        · rw [hlast, Int.emod_self]
          rw [Int.emod_eq_of_lt (by omega) (by omega)]; omega
        · rw [Int.emod_eq_of_lt (by omega : 0 ≤ l.seg + 1) (by omega)]
          rw [show l.seg - (l.seg + 1) = -1 by omega]
          have : (-1 : Int) % ((N - 32) / 16) = (N - 32) / 16 - 1 := by
            rw [show (-1 : Int) = ((N - 32) / 16 - 1) + ((N - 32) / 16) * (-1) by omega, Int.add_mul_emod_self_left]
            exact Int.emod_eq_of_lt (by omega) (by omega)
          exact this
      unfold Lg.lin at hl
      omega
  · have := place_lin ho hm h
    have hb := rank_range (start := l.start) (place_range ho (many := many) (by omega)).1
    have := (place_range ho (many := many) (by omega)).2.2
    have hp := (place_range ho (many := many) (by omega)).2.1
    unfold Lg.lin at hl
    by_cases hc : l.taken + many ≤ 16
    · omega
    · have hrn := rank_next ho.sg ho.st ((placeOk_next h).resolve_left hc)
      rw [Lg.placeSeg, if_neg hc] at hb
      omega
theorem Free.new {n : Nat} (l : Lg) : Free (Dk.new n) l := fun k i _ _ _ _ => by
  unfold Dk.read
  split
  · show (List.replicate n noSec).getD _ noSec = noSec
    rw [List.getD_eq_getElem?_getD, List.getElem?_replicate]
    split <;> rfl
  · rfl
end Go.Proofs.Ytogkibikghbghaa.Wal
