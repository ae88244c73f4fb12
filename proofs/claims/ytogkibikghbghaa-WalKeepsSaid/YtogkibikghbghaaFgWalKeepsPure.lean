/- The plain law of WalKeeps: what was synced is there behind a crash. No program in sight. -/
import Derived.Test.YtogkibikghbghaaFgWalLaid
set_option linter.unusedVariables false
set_option linter.unusedSimpArgs false
namespace Go.Proofs.Ytogkibikghbghaa.Wal
open Go.RowKit Go.Proofs.Ytogkibikghbghaa.Fg Go.Proofs.Ytogkibikghbghaa.Frame Go.Proofs.Ytogkibikghbghaa.Disk Go.Proofs.Ytogkibikghbghaa.Area

/-- A disk as it is behind a crash that keeps nothing. -/
def stb (d : Dk) : Dk := { d with pd := [] }
theorem stb_read (d : Dk) (i : Int) : (stb d).read i = if d.there i then d.st.getD i.toNat noSec else noSec := rfl
theorem settle_other (f : Nat → Bool) (i : Nat) : ∀ (l : List (Nat × List Int)) (k : Nat) (st : List (List Int)), (∀ x ∈ l, x.1 ≠ i) → (Dk.settle f k st l).getD i noSec = st.getD i noSec
  | [], _, _, _ => rfl
  | x :: r, k, st, h => by
    rw [Dk.settle, settle_other f i r (k + 1) _ (fun y hy => h y (by simp [hy]))]
    split
    · have := h x (by simp)
      simp [List.getD_eq_getElem?_getD, List.getElem?_set_ne this]
    · rfl
theorem settle_last (i : Nat) : ∀ (l : List (Nat × List Int)) (k : Nat) (st : List (List Int)), i < st.length → (Dk.settle (fun _ => true) k st l).getD i noSec = Dk.last i (st.getD i noSec) l
  | [], _, _, _ => rfl
  | x :: r, k, st, hi => by
    rw [Dk.settle, Dk.last, if_pos rfl, settle_last i r (k + 1) (st.set x.1 x.2) (by simpa using hi)]
    congr 1
    by_cases hx : (x.1 : Int) = i
    · have hx' : x.1 = i := by omega
      rw [if_pos hx, hx']
      simp [hi]
    · have hx' : x.1 ≠ i := fun e => hx (by omega)
      rw [if_neg hx]
      simp [List.getElem?_set_ne hx']
theorem up_act {d : Dk} (h : d.down = false) : (d.actE = 0 ∧ d.act.down = false) ∨ (d.actE = 72 ∧ d.act.down = true) := by
  have h' : ¬ d.down = true := by rw [h]; decide
  unfold Dk.actE Dk.act
  rw [if_neg h', if_neg h']
  by_cases h1 : d.left = -1
  · rw [if_pos h1, if_pos h1]; exact .inl ⟨rfl, h⟩
  · rw [if_neg h1, if_neg h1]
    by_cases h2 : 0 < d.left
    · rw [if_pos h2, if_pos h2]; exact .inl ⟨rfl, h⟩
    · rw [if_neg h2, if_neg h2]; exact .inr ⟨rfl, rfl⟩
theorem put_read {d : Dk} (ha : d.actE = 0) {i : Int} (hi : d.there i = true) (s : List Int) (j : Int) : (d.put i s).read j = if j = i then s else d.read j := by
  have h0 : 0 ≤ i ∧ i < (d.st.length : Int) := by simpa [Dk.there] using hi
  have e : d.put i s = { d.act with pd := d.pd ++ [(i.toNat, s)] } := by rw [Dk.put, if_pos hi, if_pos ha]
  have hst : (d.put i s).st = d.st := by rw [e]; exact Dk.act_st d
  have hpd : (d.put i s).pd = d.pd ++ [(i.toNat, s)] := by rw [e]
  have ht : (d.put i s).there j = d.there j := by unfold Dk.there; rw [hst]
  unfold Dk.read
  rw [ht, hst, hpd]
  by_cases hj : d.there j = true
  · rw [if_pos hj, if_pos hj, Dk.last_snoc]
    by_cases e : j = i
    · rw [if_pos e, if_pos (by show ((i.toNat : Nat) : Int) = j; omega)]
    · rw [if_neg e, if_neg (by show ¬ ((i.toNat : Nat) : Int) = j; omega)]
  · have hne : ¬ j = i := fun e => hj (by rw [e]; exact hi)
    rw [if_neg hj, if_neg hj, if_neg hne]
/-- Sectors written to a disk that is up: all of them, or the power is lost. -/
theorem putAll_up : ∀ (r : List (List Int)) (d : Dk) (i : Int), d.down = false → 0 ≤ i → i + r.length ≤ d.st.length →
    ((putAllE d i r = 0 ∧ (putAll d i r).down = false ∧ ∀ j, (putAll d i r).read j = if i ≤ j ∧ j < i + r.length then r.getD (j - i).toNat noSec else d.read j) ∨ (putAllE d i r = 72 ∧ (putAll d i r).down = true)) ∧
    ∀ x ∈ (putAll d i r).pd, x ∈ d.pd ∨ (i ≤ (x.1 : Int) ∧ (x.1 : Int) < i + r.length)
  | [], d, i, h, h0, h1 => ⟨.inl ⟨rfl, h, fun j => by rw [if_neg (by simp only [List.length_nil]; omega)]; rfl⟩, fun x hx => .inl hx⟩
  | s :: r, d, i, h, h0, h1 => by
    have hi : d.there i = true := by
      simp only [List.length_cons] at h1
      simp only [Dk.there, Bool.and_eq_true, decide_eq_true_eq]; omega
    have hpe : d.putE i = d.actE := by rw [Dk.putE, if_pos hi]
    rw [putAll, putAllE]
    rcases up_act h with ⟨a1, a2⟩ | ⟨a1, a2⟩
    · have e : d.put i s = { d.act with pd := d.pd ++ [(i.toNat, s)] } := by rw [Dk.put, if_pos hi, if_pos a1]
      have hst : (d.put i s).st = d.st := put_st d i s
      have hdn : (d.put i s).down = false := by rw [e]; exact a2
      obtain ⟨b1, b2⟩ := putAll_up r (d.put i s) (i + 1) hdn (by omega) (by rw [hst]; simp only [List.length_cons] at h1; omega)
      rw [if_pos (hpe.trans a1), if_pos (hpe.trans a1)]
      refine ⟨?_, fun x hx => ?_⟩
      · rcases b1 with ⟨c1, c2, c3⟩ | c
        · refine .inl ⟨c1, c2, fun j => ?_⟩
          rw [c3 j, put_read a1 hi]
          simp only [List.length_cons]
          by_cases e : j = i
          · subst e
            rw [if_neg (by omega), if_pos rfl, if_pos (by omega), Int.sub_self]
            rfl
          · rw [if_neg e]
            by_cases hj : i + 1 ≤ j ∧ j < i + 1 + r.length
            · rw [if_pos hj, if_pos (by omega), show (j - i).toNat = (j - (i + 1)).toNat + 1 by omega]
              rfl
            · rw [if_neg hj, if_neg (by omega)]
        · exact .inr c
      · simp only [List.length_cons]
        rcases b2 x hx with hx | hx
        · rw [e] at hx
          rcases List.mem_append.1 hx with hx | hx
          · exact .inl hx
          · rw [List.mem_singleton.1 hx]; right; show i ≤ ((i.toNat : Nat) : Int) ∧ ((i.toNat : Nat) : Int) < _; omega
        · right; omega
    · have hne : ¬ d.putE i = 0 := by rw [hpe, a1]; decide
      have e : d.put i s = d.act := by rw [Dk.put, if_pos hi, if_neg (by rw [a1]; decide)]
      rw [if_neg hne, if_neg hne]
      refine ⟨.inr ⟨by rw [hpe, a1], by rw [e]; exact a2⟩, fun x hx => .inl ?_⟩
      rw [e, Dk.act_pd] at hx
      exact hx
def l9 : Lg := Lg.new 9 100 0
/-- What is safe is laid on what is stable, and nothing that is pending lies on it. -/
structure KpS (N k : Nat) (d : Dk) (rs : List Rec) : Prop where
  len : d.st.length = N
  start : l9.ok N
  few : k ≤ rs.length
  most : rs.length ≤ 60
  small : ∀ r ∈ rs, Crc.Small r.pay
  safe : ∃ ls, Laid (stb d) l9 (rs.take k) ls ∧ ∀ x ∈ d.pd, ¬ Bef N ls (x.1 : Int)
structure KpL (N j k : Nat) (l : Lg) (d : Dk) (rs : List Rec) : Prop where
  laid : Laid d l9 rs l
  free : Free d l
  up : d.down = false
  len : d.st.length = N
  start : l9.ok N
  pd : d.pd.length ≤ j * 12
  next : l.next = 100 + rs.length
  epoch : l.epoch = 9
  few : k ≤ rs.length
  most : rs.length ≤ j
  small : ∀ r ∈ rs, Crc.Small r.pay
  safe : ∃ ls, Laid (stb d) l9 (rs.take k) ls ∧ (∀ x ∈ d.pd, ¬ Bef N ls (x.1 : Int)) ∧ ∀ q, Bef N ls q → Bef N l q
theorem KpL.toS {N j k : Nat} {l : Lg} {d : Dk} {rs : List Rec} (h : KpL N j k l d rs) (hj : j ≤ 60) : KpS N k d rs := by
  obtain ⟨ls, h1, h2, -⟩ := h.safe
  exact ⟨h.len, h.start, h.few, Nat.le_trans h.most hj, h.small, ls, h1, h2⟩
theorem KpL.more {N j k : Nat} {l : Lg} {d : Dk} {rs : List Rec} (h : KpL N j k l d rs) : KpL N (j + 1) k l d rs :=
  ⟨h.laid, h.free, h.up, h.len, h.start, by have := h.pd; omega, h.next, h.epoch, h.few, by have := h.most; omega, h.small, h.safe⟩
theorem stb_laid {d d' : Dk} (hst : d'.st = d.st) {l l2 : Lg} {rs : List Rec} (h : Laid (stb d) l rs l2) (ho : l.ok d.st.length) : Laid (stb d') l rs l2 :=
  h.same (by show d'.st.length = d.st.length; rw [hst]) ho (fun q _ => by rw [stb_read, stb_read]; unfold Dk.there; rw [hst])
theorem stb_safe {N k : Nat} {d d' : Dk} {rs : List Rec} (h : KpS N k d rs) (hst : d'.st = d.st) (hpd : d'.pd = d.pd) : KpS N k d' rs := by
  obtain ⟨ls, h1, h2⟩ := h.safe
  exact ⟨by rw [hst]; exact h.len, h.start, h.few, h.most, h.small, ls, stb_laid hst h1 (by rw [h.len]; exact h.start), by rw [hpd]; exact h2⟩
theorem app_pd12 (l : Lg) (d : Dk) (p : List Int) : (l.appD d p).pd.length ≤ d.pd.length + 12 := by
  unfold Lg.appD
  split
  · omega
  · rename_i hp7
    split
    · have h1 := putAll_pd (l.rcd p).made d (l.at_ d.st.length (l.rcd p).many)
      obtain ⟨m1, m2, m3⟩ := rcd_many (l := l) (p := p) (by omega)
      omega
    · omega
theorem KpL.same {N j k : Nat} {l : Lg} {d : Dk} {rs : List Rec} (h : KpL N j k l d rs) {p : List Int} (hk : ¬ (p.length ≤ 700 ∧ l.placeOk N (l.rcd p).many = true)) : l.appL d p = l ∧ l.appD d p = d ∧ l.appE d p ≠ 0 :=
  app_same (by rw [h.len]; exact hk)
theorem KpL.app {N j k : Nat} {l : Lg} {d : Dk} {rs : List Rec} (h : KpL N j k l d rs) (hj : j < 60) {p : List Int} (hs : Crc.Small p) (hk : p.length ≤ 700 ∧ l.placeOk N (l.rcd p).many = true) :
    (l.appE d p = 0 ∧ KpL N (j + 1) k (l.appL d p) (l.appD d p) (rs ++ [⟨l.next, 9, p⟩]) ∧ l.appN d p = l.next ∧ (l.appD d p).down = false) ∨ (l.appE d p ≠ 0 ∧ (l.appD d p).down = true ∧ KpS N k (l.appD d p) rs) := by
  obtain ⟨hp, hk⟩ := hk
  have hn : l.next ≠ 0 := by have := h.next; omega
  have hr : l.rcd p = ⟨l.next, 9, p⟩ := by unfold Lg.rcd; rw [if_neg hn, h.epoch]
  have h0 : l9.ok d.st.length := by rw [h.len]; exact h.start
  have ho := h.laid.ok h0
  have hk' : l.placeOk d.st.length (l.rcd p).many = true := by rw [h.len]; exact hk
  obtain ⟨m1, m2, m3⟩ := rcd_many (l := l) hp
  have hm : 0 < ((l.rcd p).many : Int) ∧ ((l.rcd p).many : Int) ≤ 12 := by omega
  obtain ⟨p1, p2, p3⟩ := place_range ho (many := (l.rcd p).many) (by omega)
  obtain ⟨s1, s2, s3⟩ := segV_eq p1
  have hat : l.at_ d.st.length (l.rcd p).many = 32 + l.placeSeg d.st.length (l.rcd p).many * 16 + l.placeAt (l.rcd p).many := by rw [Lg.at_, s1]
  obtain ⟨b1, b2⟩ := putAll_up (l.rcd p).made d (l.at_ d.st.length (l.rcd p).many) h.up (by omega) (by rw [m1]; omega)
  rw [m1] at b1 b2
  have eE : l.appE d p = putAllE d (l.at_ d.st.length (l.rcd p).many) (l.rcd p).made := by unfold Lg.appE; rw [if_neg (by omega), if_pos hk']
  have eD : l.appD d p = putAll d (l.at_ d.st.length (l.rcd p).many) (l.rcd p).made := by unfold Lg.appD; rw [if_neg (by omega), if_pos hk']
  rw [← eE, ← eD] at b1
  rw [← eD] at b2
  have hst := appD_st l d p
  have hpd := app_pd12 l d p
  obtain ⟨ls, g1, g2, g3⟩ := h.safe
  have hpend : ∀ x ∈ (l.appD d p).pd, ¬ Bef N ls (x.1 : Int) := by
    intro x hx
    rcases b2 x hx with hx | hx
    · exact g2 x hx
    · intro hb
      have := (at_bef ho hm hk' (i := (x.1 : Int) - l.at_ d.st.length (l.rcd p).many) (by omega)).2
      rw [show l.at_ d.st.length (l.rcd p).many + ((x.1 : Int) - l.at_ d.st.length (l.rcd p).many) = (x.1 : Int) by omega] at this
      rw [h.len] at this
      exact this (g3 _ hb)
  rcases b1 with ⟨a1, a2, a3⟩ | ⟨a1, a2⟩
  · left
    obtain ⟨c1, c2, c3⟩ := app_laid_of h0 h.laid h.free hs hp hn hk' a1 a3
    rw [hr] at c2
    refine ⟨a1, ⟨c2, c3, a2, by rw [hst]; exact h.len, h.start, by have := h.pd; omega, ?_, ?_, ?_, ?_, ?_, ls, ?_, hpend, fun q hq => ?_⟩, by rw [Lg.appN, if_pos a1], a2⟩
    · rw [c1]
      show (l.next + 1) % _ = _
      have := h.next
      have := h.most
      simp only [List.length_append, List.length_cons, List.length_nil]
      omega
    · rw [c1]; exact h.epoch
    · have := h.few; simp; omega
    · have := h.most; simp; omega
    · intro r hm
      rcases List.mem_append.1 hm with hm | hm
      · exact h.small r hm
      · rw [List.mem_singleton.1 hm]; exact hs
    · rw [List.take_append_of_le_length h.few]
      exact stb_laid hst g1 h0
    · rw [c1, h.len]
      have := bef_behind ho hm hk' (q := q)
      rw [h.len] at this
      exact this (g3 q hq)
  · right
    exact ⟨by rw [a1]; decide, a2, by rw [hst]; exact h.len, h.start, h.few, by have := h.most; omega, h.small, ls, stb_laid hst g1 h0, hpend⟩
theorem KpL.sync {N j k : Nat} {l : Lg} {d : Dk} {rs : List Rec} (h : KpL N j k l d rs) (hj : j ≤ 60) :
    (d.actE = 0 ∧ KpL N j rs.length l d.sync rs ∧ d.sync.down = false) ∨ (d.actE ≠ 0 ∧ d.sync.down = true ∧ KpS N k d.sync rs) := by
  have h0 : l9.ok d.st.length := by rw [h.len]; exact h.start
  rcases up_act h.up with ⟨a1, a2⟩ | ⟨a1, a2⟩
  · left
    have e : d.sync = { d.act with st := Dk.settle (fun _ => true) 0 d.st d.pd, pd := [] } := if_pos a1
    have hst : d.sync.st.length = d.st.length := by rw [e]; exact Dk.length_settle _ _ _ _
    have hrd : ∀ q, d.sync.read q = d.read q := by
      intro q
      have ht : d.sync.there q = d.there q := by unfold Dk.there; rw [hst]
      unfold Dk.read
      rw [ht]
      split
      · rename_i hq
        have hq' : 0 ≤ q ∧ q < (d.st.length : Int) := by simpa [Dk.there] using hq
        have hs1 : d.sync.st = Dk.settle (fun _ => true) 0 d.st d.pd := by rw [e]
        have hp1 : d.sync.pd = [] := by rw [e]
        rw [hs1, hp1]
        show (Dk.settle (fun _ => true) 0 d.st d.pd).getD q.toNat noSec = _
        rw [settle_last q.toNat d.pd 0 d.st (by omega), show ((q.toNat : Nat) : Int) = q by omega]
      · rfl
    have hpd : d.sync.pd = [] := by rw [e]
    have hrs : ∀ q, (stb d.sync).read q = d.read q := fun q => by
      rw [← hrd q, stb_read, Dk.read, hpd]; rfl
    have hdn : d.sync.down = false := by rw [e]; exact a2
    refine ⟨a1, ⟨h.laid.same hst h0 (fun q _ => hrd q), ?_, hdn, by rw [hst]; exact h.len, h.start, by rw [hpd]; simp, h.next, h.epoch, Nat.le_refl _, h.most, h.small, l, ?_, (by rw [hpd]; intro x hx; cases hx), fun _ hq => hq⟩, hdn⟩
    · intro k i h1 h2 h3 h4
      rw [hst] at h1 h4 ⊢
      rw [hrd]
      exact h.free k i h1 h2 h3 h4
    · rw [List.take_length]
      exact h.laid.same (d' := stb d.sync) hst h0 (fun q _ => hrs q)
  · right
    have e : d.sync = d.act := if_neg (by rw [a1]; decide)
    exact ⟨by rw [a1]; decide, by rw [e]; exact a2, stb_safe (h.toS hj) (by rw [e]; exact Dk.act_st d) (by rw [e]; exact Dk.act_pd d)⟩
theorem KpL.brk {N j k : Nat} {l : Lg} {d : Dk} {rs : List Rec} (h : KpL N j k l d rs) (n : Int) : KpL N j k l (d.brk n) rs := by
  have h0 : l9.ok d.st.length := by rw [h.len]; exact h.start
  obtain ⟨ls, h1, h2, h3⟩ := h.safe
  exact ⟨h.laid.same (d' := d.brk n) rfl h0 (fun q _ => rfl), h.free, h.up, h.len, h.start, h.pd, h.next, h.epoch, h.few, h.most, h.small, ls, stb_laid (d := d) (d' := d.brk n) rfl h1 h0, h2, h3⟩
/-- Behind a crash what is safe is found first. -/
theorem KpS.crash {N k : Nat} {d : Dk} {rs : List Rec} (h : KpS N k d rs) (keep : List Bool) : ∃ more L, scanAll (d.crash keep) 9 100 0 = (rs.take k ++ more, L) := by
  obtain ⟨ls, h1, h2⟩ := h.safe
  have h0 : l9.ok d.st.length := by rw [h.len]; exact h.start
  have hst : (d.crash keep).st.length = d.st.length := Dk.length_settle _ _ _ _
  have hl : Laid (d.crash keep) l9 (rs.take k) ls := by
    refine h1.same hst h0 fun q hq => ?_
    have hq : Bef N ls q := by rw [← h.len]; exact hq
    have ht : (d.crash keep).there q = d.there q := by unfold Dk.there; rw [hst]
    rw [stb_read, Dk.read, ht]
    by_cases hth : d.there q = true
    · rw [if_pos hth, if_pos hth]
      show (Dk.settle _ 0 d.st d.pd).getD q.toNat noSec = _
      have hq' : 0 ≤ q ∧ q < (d.st.length : Int) := by simpa [Dk.there] using hth
      refine settle_other _ _ _ _ _ fun x hx e => h2 x hx ?_
      rw [show (x.1 : Int) = q by omega]
      exact hq
    · rw [if_neg hth, if_neg hth]
  have hlen : (rs.take k).length ≤ 496 := by have := h.most; rw [List.length_take]; omega
  have := hl.scan (by rw [hst]; exact h0) (496 - (rs.take k).length)
  rw [show (rs.take k).length + (496 - (rs.take k).length) = 496 by omega] at this
  exact ⟨_, _, this⟩
theorem KpL.new {n : Nat} (h : l9.ok n) : KpL n 0 0 l9 (Dk.new n) [] :=
  ⟨.nil _, Free.new _, rfl, by simp [Dk.new], h, Nat.zero_le _, rfl, rfl, Nat.le_refl _, Nat.le_refl _, (fun r hr => by cases hr), l9, .nil _, (fun x hx => by cases hx), fun _ hq => hq⟩
end Go.Proofs.Ytogkibikghbghaa.Wal
