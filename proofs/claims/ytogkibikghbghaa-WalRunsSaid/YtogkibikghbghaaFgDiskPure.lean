/- What a disk does, told on lists of sectors. Plain; no program here. -/
import Derived.Test.YtogkibikghbghaaFgSec
set_option linter.unusedVariables false
namespace Go.Proofs.Ytogkibikghbghaa.Disk

/-- A disk: what is stable, what is pending, how many acts are left (-1: nothing counts them), is it down? -/
structure Dk where
  st : List (List Int)
  pd : List (Nat × List Int)
  left : Int
  down : Bool
namespace Dk
def there (d : Dk) (i : Int) : Bool := decide (0 ≤ i) && decide (i < d.st.length)
def stable (d : Dk) (i : Int) : List Int := if d.there i then d.st.getD i.toNat noSec else noSec
def sErr (d : Dk) (i : Int) : Int := if d.there i then 0 else 71
/-- The last pending one at a place. -/
def last (i : Int) : List Int → List (Nat × List Int) → List Int
  | out, [] => out
  | out, x :: r => last i (if (x.1 : Int) = i then x.2 else out) r
def read (d : Dk) (i : Int) : List Int := if d.there i then last i (d.st.getD i.toNat noSec) d.pd else noSec
def actE (d : Dk) : Int := if d.down then 72 else if d.left = -1 then 0 else if 0 < d.left then 0 else 72
def act (d : Dk) : Dk := if d.down then d else if d.left = -1 then d else if 0 < d.left then { d with left := d.left - 1 } else { d with down := true }
def put (d : Dk) (i : Int) (s : List Int) : Dk := if d.there i then (if d.actE = 0 then { d.act with pd := d.pd ++ [(i.toNat, s)] } else d.act) else d
def putE (d : Dk) (i : Int) : Int := if d.there i then d.actE else 71
/-- What is kept stays. -/
def settle (f : Nat → Bool) : Nat → List (List Int) → List (Nat × List Int) → List (List Int)
  | _, st, [] => st
  | k, st, x :: r => settle f (k + 1) (if f k then st.set x.1 x.2 else st) r
def sync (d : Dk) : Dk := if d.actE = 0 then { d.act with st := settle (fun _ => true) 0 d.st d.pd, pd := [] } else d.act
def crash (d : Dk) (keep : List Bool) : Dk := { st := settle (fun k => keep.getD k false) 0 d.st d.pd, pd := [], left := -1, down := false }
def brk (d : Dk) (n : Int) : Dk := { d with left := if n < -1 then -1 else n }
/-- Such as disks are. -/
structure ok (d : Dk) : Prop where
  sec : ∀ s ∈ d.st, s.length = 64
  at_ : ∀ x ∈ d.pd, x.1 < d.st.length ∧ x.2.length = 64
  left : -1 ≤ d.left ∧ d.left ≤ 9223372036854775807
theorem act_st (d : Dk) : d.act.st = d.st := by
  unfold act
  repeat' split
  all_goals rfl
theorem act_pd (d : Dk) : d.act.pd = d.pd := by
  unfold act
  repeat' split
  all_goals rfl
theorem length_settle (f : Nat → Bool) : ∀ (l : List (Nat × List Int)) (k : Nat) (st : List (List Int)), (settle f k st l).length = st.length
  | [], _, _ => rfl
  | x :: r, k, st => by
    rw [settle, length_settle f r]
    split
    · simp
    · rfl
theorem settle_sec (f : Nat → Bool) : ∀ (l : List (Nat × List Int)) (k : Nat) (st : List (List Int)), (∀ s ∈ st, s.length = 64) → (∀ x ∈ l, x.2.length = 64) → ∀ s ∈ settle f k st l, s.length = 64
  | [], _, _, h, _ => h
  | x :: r, k, st, h, hl => by
    rw [settle]
    refine settle_sec f r (k + 1) _ ?_ (fun y hy => hl y (by simp [hy]))
    split
    · intro s hs
      rcases List.mem_or_eq_of_mem_set hs with hs | rfl
      · exact h s hs
      · exact hl x (by simp)
    · exact h
theorem settle_snoc (f : Nat → Bool) (x : Nat × List Int) : ∀ (l : List (Nat × List Int)) (k : Nat) (st : List (List Int)), settle f k st (l ++ [x]) = (if f (k + l.length) then (settle f k st l).set x.1 x.2 else settle f k st l)
  | [], _, _ => rfl
  | y :: r, k, st => by
    rw [List.cons_append, settle, settle_snoc f x r, settle]
    simp only [List.length_cons, show k + 1 + r.length = k + (r.length + 1) by omega]
theorem last_snoc (i : Int) (x : Nat × List Int) : ∀ (l : List (Nat × List Int)) (out : List Int), last i out (l ++ [x]) = if (x.1 : Int) = i then x.2 else last i out l
  | [], _ => rfl
  | y :: r, out => by rw [List.cons_append, last, last_snoc i x r, last]
theorem last_64 (i : Int) : ∀ (l : List (Nat × List Int)) (out : List Int), out.length = 64 → (∀ x ∈ l, x.2.length = 64) → (last i out l).length = 64
  | [], _, h, _ => h
  | x :: r, out, h, hl => by
    rw [last]
    refine last_64 i r _ ?_ (fun y hy => hl y (by simp [hy]))
    split
    · exact hl x (by simp)
    · exact h
theorem noSec_len : noSec.length = 64 := by simp [noSec]
theorem getD_64 {l : List (List Int)} (h : ∀ s ∈ l, s.length = 64) (i : Nat) : (l.getD i noSec).length = 64 := by
  rw [List.getD_eq_getElem?_getD]
  by_cases hi : i < l.length
  · rw [List.getElem?_eq_getElem hi]; exact h _ (List.getElem_mem hi)
  · rw [List.getElem?_eq_none (by omega)]; exact noSec_len
theorem stable_64 {d : Dk} (h : d.ok) (i : Int) : (d.stable i).length = 64 := by
  unfold stable
  split
  · exact getD_64 h.sec _
  · exact noSec_len
theorem read_64 {d : Dk} (h : d.ok) (i : Int) : (d.read i).length = 64 := by
  unfold read
  split
  · exact last_64 i _ _ (getD_64 h.sec _) (fun x hx => (h.at_ x hx).2)
  · exact noSec_len
theorem act_ok {d : Dk} (h : d.ok) : d.act.ok := by
  refine ⟨by rw [act_st]; exact h.sec, by rw [act_st, act_pd]; exact h.at_, ?_⟩
  have := h.left
  unfold act
  repeat' split
  all_goals first | exact this | (simp only; omega)
theorem put_ok {d : Dk} (h : d.ok) (i : Int) {s : List Int} (hs : s.length = 64) : (d.put i s).ok := by
  unfold put
  split
  · rename_i ht
    split
    · refine ⟨by simp only [act_st]; exact h.sec, ?_, (act_ok h).left⟩
      simp only [act_st]
      intro x hx
      rcases List.mem_append.1 hx with hx | hx
      · exact h.at_ x hx
      · rw [List.mem_singleton.1 hx]
        simp only [there, Bool.and_eq_true, decide_eq_true_eq] at ht
        exact ⟨by show i.toNat < _; omega, hs⟩
    · exact act_ok h
  · exact h
theorem sync_ok {d : Dk} (h : d.ok) : d.sync.ok := by
  unfold sync
  split
  · exact ⟨settle_sec _ _ _ _ h.sec (fun x hx => (h.at_ x hx).2), (fun x hx => by cases hx), (act_ok h).left⟩
  · exact act_ok h
theorem crash_ok {d : Dk} (h : d.ok) (keep : List Bool) : (d.crash keep).ok :=
  ⟨settle_sec _ _ _ _ h.sec (fun x hx => (h.at_ x hx).2), (fun x hx => by cases hx), by simp [crash]⟩
theorem brk_ok {d : Dk} (h : d.ok) {n : Int} (hn : n ≤ 9223372036854775807) : (d.brk n).ok := by
  refine ⟨h.sec, h.at_, ?_⟩
  show -1 ≤ (if n < -1 then -1 else n : Int) ∧ (if n < -1 then -1 else n : Int) ≤ _
  split <;> omega
/-- A new one. -/
def new (n : Nat) : Dk := ⟨List.replicate n noSec, [], -1, false⟩
theorem new_ok (n : Nat) : (new n).ok := ⟨fun s hs => by rw [(List.mem_replicate.1 hs).2]; exact noSec_len, (fun x hx => by cases hx), by simp [new]⟩
end Dk
end Go.Proofs.Ytogkibikghbghaa.Disk
