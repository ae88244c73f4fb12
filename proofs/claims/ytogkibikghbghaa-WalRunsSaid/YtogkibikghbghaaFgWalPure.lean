/- The plain law of floodgate's log: where it is, what it appends, what it finds. No program in sight. -/
import Derived.Test.YtogkibikghbghaaFgFrameBackPure
import Derived.Test.YtogkibikghbghaaFgDiskPure
import Derived.Test.YtogkibikghbghaaFgRef09
import Derived.Test.YtogkibikghbghaaFgMod
set_option linter.unusedVariables false
namespace Go.Proofs.Ytogkibikghbghaa.Wal
open Go.RowKit Go.Proofs.Ytogkibikghbghaa.Fg Go.Proofs.Ytogkibikghbghaa.Frame Go.Proofs.Ytogkibikghbghaa.Disk Go.Proofs.Ytogkibikghbghaa.Area

/-- A log; its disk is told beside it. -/
structure Lg where
  epoch : Int
  next : Int
  start : Int
  seg : Int
  taken : Int
structure Lg.ok (N : Int) (l : Lg) : Prop where
  e0 : 0 ≤ l.epoch
  e1 : l.epoch < 4294967296
  n0 : 0 ≤ l.next
  n1 : l.next < 18446744073709551616
  st : okB N l.start = true
  sg : okB N l.seg = true
  t0 : 0 ≤ l.taken
  t1 : l.taken ≤ 16
def Lg.new (epoch seq seg : Int) : Lg := ⟨epoch, seq, seg, seg, 0⟩
def startE (N seq seg : Int) : Int := if okB N seg = true then (if seq = 0 then 81 else 0) else 91
def Lg.left (l : Lg) (N : Int) : Int := (segsN N - usedV N l.start l.seg) * 16 + 16 - l.taken
def Lg.placeSeg (l : Lg) (N many : Int) : Int := if l.taken + many ≤ 16 then l.seg else nextV N l.seg
def Lg.placeAt (l : Lg) (many : Int) : Int := if l.taken + many ≤ 16 then l.taken else 0
def Lg.placeOk (l : Lg) (N many : Int) : Bool := !(decide (many = 0)) && !(decide (l.next = 0)) && (decide (l.taken + many ≤ 16) || !(decide (nextV N l.seg = l.start)))

/-- Sectors written one behind the other, up to the first that is refused. -/
def putAll : Dk → Int → List (List Int) → Dk
  | d, _, [] => d
  | d, i, s :: r => if d.putE i = 0 then putAll (d.put i s) (i + 1) r else d.put i s
def putAllE : Dk → Int → List (List Int) → Int
  | _, _, [] => 0
  | d, i, s :: r => if d.putE i = 0 then putAllE (d.put i s) (i + 1) r else d.putE i
/-- The record of an append. -/
def Lg.rcd (l : Lg) (p : List Int) : Rec := ⟨if l.next = 0 then 1 else l.next, l.epoch, p⟩
def Lg.at_ (l : Lg) (N many : Int) : Int := segV N (l.placeSeg N many) + l.placeAt many
def Lg.appE (l : Lg) (d : Dk) (p : List Int) : Int :=
  if 700 < p.length then 81 else if l.placeOk d.st.length (l.rcd p).many = true then putAllE d (l.at_ d.st.length (l.rcd p).many) (l.rcd p).made else 101
def Lg.appD (l : Lg) (d : Dk) (p : List Int) : Dk :=
  if 700 < p.length then d else if l.placeOk d.st.length (l.rcd p).many = true then putAll d (l.at_ d.st.length (l.rcd p).many) (l.rcd p).made else d
def Lg.appL (l : Lg) (d : Dk) (p : List Int) : Lg :=
  if l.appE d p = 0 then ⟨l.epoch, (l.next + 1) % 18446744073709551616, l.start, l.placeSeg d.st.length (l.rcd p).many, l.placeAt (l.rcd p).many + (l.rcd p).many⟩ else l
def Lg.appN (l : Lg) (d : Dk) (p : List Int) : Int := if l.appE d p = 0 then l.next else 0

/-- The sectors from a place of a segment to its end. -/
def readSecs (d : Dk) (seg at_ : Int) : List (List Int) := (List.range (16 - at_).toNat).map fun (i : Nat) => d.read (segV d.st.length seg + (at_ + (i : Int)))
def Lg.opens (l : Lg) (d : Dk) (seg at_ : Int) : Prop := isRec (readSecs d seg at_) ∧ (openedR (readSecs d seg at_)).seq = l.next ∧ (openedR (readSecs d seg at_)).epoch = l.epoch
instance (l : Lg) (d : Dk) (seg at_ : Int) : Decidable (l.opens d seg at_) := inferInstanceAs (Decidable (_ ∧ _))
def Lg.openR (l : Lg) (d : Dk) (seg at_ : Int) : Rec := if l.opens d seg at_ then openedR (readSecs d seg at_) else noRec
def Lg.openN (l : Lg) (d : Dk) (seg at_ : Int) : Int := if l.opens d seg at_ then openedN (readSecs d seg at_) else 0
/-- The next record of what is there already, and where the log is then. -/
def Lg.step (l : Lg) (d : Dk) : Option (Rec × Lg) :=
  if 0 < l.openN d l.seg l.taken then some (l.openR d l.seg l.taken, { l with taken := l.taken + l.openN d l.seg l.taken })
  else if nextV d.st.length l.seg = l.start then none
  else if l.openN d (nextV d.st.length l.seg) 0 = 0 then none
  else some (l.openR d (nextV d.st.length l.seg) 0, { l with seg := nextV d.st.length l.seg, taken := l.openN d (nextV d.st.length l.seg) 0 })
def Lg.succ (l : Lg) : Lg := { l with next := (l.next + 1) % 18446744073709551616 }
/-- All records, and where the log is behind them; so many steps at most. -/
def scanF : Nat → Lg → Dk → List Rec × Lg
  | 0, l, _ => ([], l)
  | k + 1, l, d => if l.next = 0 then ([], l) else match l.step d with
    | none => ([], l)
    | some (r, l') => (r :: (scanF k l'.succ d).1, (scanF k l'.succ d).2)

/-- Disks whose sectors are bytes. -/
structure Byt (d : Dk) : Prop where
  st : ∀ s ∈ d.st, Crc.Small s
  pd : ∀ x ∈ d.pd, Crc.Small x.2
theorem noSec_small : Crc.Small noSec := fun x hx => by rw [(List.mem_replicate.1 hx).2]; omega
theorem last_small (i : Int) : ∀ (l : List (Nat × List Int)) (out : List Int), Crc.Small out → (∀ x ∈ l, Crc.Small x.2) → Crc.Small (Dk.last i out l)
  | [], _, h, _ => h
  | x :: r, out, h, hl => by
    rw [Dk.last]
    refine last_small i r _ ?_ (fun y hy => hl y (by simp [hy]))
    split
    · exact hl x (by simp)
    · exact h
theorem Byt.read {d : Dk} (h : Byt d) (i : Int) : Crc.Small (d.read i) := by
  unfold Dk.read
  split
  · refine last_small i _ _ ?_ h.pd
    rw [List.getD_eq_getElem?_getD]
    by_cases hi : i.toNat < d.st.length
    · rw [List.getElem?_eq_getElem hi]; exact h.st _ (List.getElem_mem hi)
    · rw [List.getElem?_eq_none (by omega)]; exact noSec_small
  · exact noSec_small
theorem Byt.put {d : Dk} (h : Byt d) (i : Int) {s : List Int} (hs : Crc.Small s) : Byt (d.put i s) := by
  have ha : Byt d.act := ⟨by rw [Dk.act_st]; exact h.st, by rw [Dk.act_pd]; exact h.pd⟩
  unfold Dk.put
  split
  · split
    · refine ⟨by show ∀ s ∈ d.act.st, _; rw [Dk.act_st]; exact h.st, fun x hx => ?_⟩
      rcases List.mem_append.1 hx with hx | hx
      · exact h.pd x hx
      · rw [List.mem_singleton.1 hx]; exact hs
    · exact ha
  · exact h
theorem settle_small (f : Nat → Bool) : ∀ (l : List (Nat × List Int)) (k : Nat) (st : List (List Int)), (∀ s ∈ st, Crc.Small s) → (∀ x ∈ l, Crc.Small x.2) → ∀ s ∈ Dk.settle f k st l, Crc.Small s
  | [], _, _, h, _ => h
  | x :: r, k, st, h, hl => by
    rw [Dk.settle]
    refine settle_small f r (k + 1) _ ?_ (fun y hy => hl y (by simp [hy]))
    split
    · intro s hs
      rcases List.mem_or_eq_of_mem_set hs with hs | rfl
      · exact h s hs
      · exact hl x (by simp)
    · exact h
theorem Byt.sync {d : Dk} (h : Byt d) : Byt d.sync := by
  unfold Dk.sync
  split
  · exact ⟨settle_small _ _ _ _ h.st h.pd, (fun x hx => by cases hx)⟩
  · exact ⟨by rw [Dk.act_st]; exact h.st, by rw [Dk.act_pd]; exact h.pd⟩
theorem Byt.crash {d : Dk} (h : Byt d) (keep : List Bool) : Byt (d.crash keep) := ⟨settle_small _ _ _ _ h.st h.pd, (fun x hx => by cases hx)⟩
theorem Byt.brk {d : Dk} (h : Byt d) (n : Int) : Byt (d.brk n) := ⟨h.st, h.pd⟩
theorem Byt.new (n : Nat) : Byt (Dk.new n) := ⟨fun s hs => by rw [(List.mem_replicate.1 hs).2]; exact noSec_small, (fun x hx => by cases hx)⟩
theorem readSecs_ok {d : Dk} (h : d.ok) (hb : Byt d) (seg at_ : Int) : Secs (readSecs d seg at_) :=
  ⟨fun s hs => by obtain ⟨i, _, rfl⟩ := List.mem_map.1 hs; exact Dk.read_64 h _, fun s hs => by obtain ⟨i, _, rfl⟩ := List.mem_map.1 hs; exact hb.read _⟩
theorem readSecs_length (d : Dk) (seg at_ : Int) : (readSecs d seg at_).length = (16 - at_).toNat := by simp [readSecs]
theorem openN_range {l : Lg} {d : Dk} (h : d.ok) (hb : Byt d) (seg : Int) {at_ : Int} (h0 : 0 ≤ at_) (h1 : at_ ≤ 16) : 0 ≤ l.openN d seg at_ ∧ l.openN d seg at_ ≤ 16 - at_ := by
  unfold Lg.openN
  split
  · rename_i ho
    have := rec_made (readSecs_ok h hb seg at_) ho.1
    rw [this.2.2.1]
    have h2 := this.2.2.2.1
    rw [readSecs_length] at h2
    omega
  · omega
theorem openN_pos {l : Lg} {d : Dk} (seg at_ : Int) : 0 < l.openN d seg at_ ↔ l.opens d seg at_ := by
  unfold Lg.openN
  split
  · rename_i ho
    refine ⟨fun _ => ho, fun _ => ?_⟩
    rw [openedN, if_pos ho.1]
    exact ho.1.2.1
  · rename_i ho
    exact ⟨fun h => absurd h (by omega), fun h => absurd h ho⟩
theorem openR_ok {l : Lg} {d : Dk} (h : d.ok) (hb : Byt d) (seg at_ : Int) : (l.openR d seg at_).ok ∧ (l.openR d seg at_).pay.length ≤ 700 := by
  unfold Lg.openR
  split
  · exact openedR_ok (readSecs_ok h hb seg at_)
  · exact ⟨noRec_ok, by decide⟩
theorem nextV_ok {N k : Int} (h : okB N k = true) : okB N (nextV N k) = true := by
  obtain ⟨h1, h2, h3, h4, h5⟩ := okB_in h
  unfold nextV
  rw [if_pos h]
  unfold okB
  rw [h5]
  have hn : 0 < (N - 32) / 16 := by omega
  have := Int.emod_nonneg (k + 1) (by omega : (N - 32) / 16 ≠ 0)
  have := Int.emod_lt_of_pos (k + 1) hn
  simp only [Bool.and_eq_true, decide_eq_true_eq]
  omega
theorem step_ok {N : Int} {l : Lg} {d : Dk} (hl : l.ok d.st.length) (h : d.ok) (hb : Byt d) {r : Rec} {l' : Lg} (hs : l.step d = some (r, l')) : l'.ok d.st.length ∧ l'.next = l.next ∧ r.ok ∧ r.pay.length ≤ 700 ∧ 0 < l'.taken := by
  unfold Lg.step at hs
  have o1 := openN_range (l := l) h hb l.seg hl.t0 hl.t1
  have o2 := openN_range (l := l) h hb (nextV d.st.length l.seg) (Int.le_refl 0) (by decide)
  split at hs
  · rename_i hp
    injection hs with hs
    injection hs with h1 h2
    subst h1 h2
    have := hl.t0
    exact ⟨⟨hl.e0, hl.e1, hl.n0, hl.n1, hl.st, hl.sg, by show 0 ≤ l.taken + _; omega, by show l.taken + _ ≤ 16; omega⟩, rfl, (openR_ok h hb _ _).1, (openR_ok h hb _ _).2, by show 0 < l.taken + _; omega⟩
  · split at hs
    · cases hs
    · split at hs
      · cases hs
      · rename_i hz
        injection hs with hs
        injection hs with h1 h2
        subst h1 h2
        exact ⟨⟨hl.e0, hl.e1, hl.n0, hl.n1, hl.st, nextV_ok hl.sg, o2.1, by show l.openN d _ 0 ≤ (16 : Int); omega⟩, rfl, (openR_ok h hb _ _).1, (openR_ok h hb _ _).2, by show 0 < l.openN d _ 0; omega⟩
end Go.Proofs.Ytogkibikghbghaa.Wal
