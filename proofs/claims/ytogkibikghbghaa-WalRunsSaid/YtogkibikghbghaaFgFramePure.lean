/- The plain law of floodgate's frames: numbers as bytes, records as sectors. No program in sight. -/
import Derived.Test.YtogkibikghbghaaFgCrcOpen0
import Derived.Test.YtogkibikghbghaaFgSec
set_option linter.unusedVariables false
namespace Go.Proofs.Ytogkibikghbghaa.Frame
open Go.RowKit Go.Proofs.Ytogkibikghbghaa.Fg Go.Proofs.Ytogkibikghbghaa.Crc Go.Proofs.Ytogkibikghbghaa.Disk

/-- A number as so many bytes, the highest first. -/
def be : Nat → Int → List Int
  | 0, _ => []
  | k + 1, n => be k (n / 256) ++ [n % 256]
theorem be_length : ∀ (k : Nat) (n : Int), (be k n).length = k
  | 0, _ => rfl
  | k + 1, n => by simp [be, be_length k]
theorem be_small : ∀ (k : Nat) (n : Int), Small (be k n)
  | 0, _ => by intro x hx; cases hx
  | k + 1, n => by
    intro x hx
    rcases List.mem_append.1 hx with hx | hx
    · exact be_small k _ x hx
    · obtain rfl := List.mem_singleton.1 hx
      omega
/-- The number of bytes. -/
def val (l : List Int) : Int := l.foldl (fun n c => n * 256 + c) 0
theorem val_snoc (l : List Int) (c : Int) : val (l ++ [c]) = val l * 256 + c := by simp [val, List.foldl_append]
theorem val_nil : val [] = 0 := rfl
theorem be_val : ∀ (k : Nat) (l : List Int), l.length = k → Small l → be k (val l) = l
  | 0, l, h, _ => by rw [List.eq_nil_of_length_eq_zero h]; rfl
  | k + 1, l, h, hs => by
    have hne : l ≠ [] := fun e => by subst e; cases h
    have e := List.dropLast_concat_getLast hne
    have hl : l.dropLast.length = k := by rw [List.length_dropLast]; omega
    have hx := hs _ (List.getLast_mem hne)
    have ih := be_val k l.dropLast hl (fun x hx => hs x (List.dropLast_subset l hx))
    rw [← e, val_snoc, be]
    have e1 : (val l.dropLast * 256 + l.getLast hne) / 256 = val l.dropLast := by omega
    have e2 : (val l.dropLast * 256 + l.getLast hne) % 256 = l.getLast hne := by omega
    rw [e1, e2, ih]
theorem val_be : ∀ (k : Nat) (n : Int), 0 ≤ n → n < 256 ^ k → val (be k n) = n
  | 0, n, h0, h => by simp at h; simp [be, val_nil]; omega
  | k + 1, n, h0, h => by
    rw [Int.pow_succ] at h
    rw [be, val_snoc, val_be k (n / 256) (by omega) (by omega)]
    omega
theorem val_range : ∀ (k : Nat) (l : List Int), l.length = k → Small l → 0 ≤ val l ∧ val l < 256 ^ k
  | 0, l, h, _ => by rw [List.eq_nil_of_length_eq_zero h]; simp [val_nil]
  | k + 1, l, h, hs => by
    have hne : l ≠ [] := fun e => by subst e; cases h
    have e := List.dropLast_concat_getLast hne
    have hl : l.dropLast.length = k := by rw [List.length_dropLast]; omega
    have hx := hs _ (List.getLast_mem hne)
    have ih := val_range k l.dropLast hl (fun x hx => hs x (List.dropLast_subset l hx))
    rw [← e, val_snoc, Int.pow_succ]
    omega

/-- A record. -/
structure Rec where
  seq : Int
  epoch : Int
  pay : List Int
theorem Rec.eq {a b : Rec} (h1 : a.seq = b.seq) (h2 : a.epoch = b.epoch) (h3 : a.pay = b.pay) : a = b := by
  cases a; cases b; simp_all
structure Rec.ok (r : Rec) : Prop where
  seq0 : 0 ≤ r.seq
  seq1 : r.seq < 18446744073709551616
  epoch0 : 0 ≤ r.epoch
  epoch1 : r.epoch < 4294967296
  small : Small r.pay
def noRec : Rec := ⟨0, 0, []⟩
/-- How many sectors hold so many bytes of payload. -/
def secs (n : Int) : Int := if 0 ≤ n ∧ n ≤ 700 then (n + 81) / 64 else 0
theorem secs_range (n : Int) : 0 ≤ secs n ∧ secs n ≤ 12 := by unfold secs; split <;> omega
def Rec.head (r : Rec) : List Int := be 2 r.pay.length ++ (be 8 r.seq ++ be 4 r.epoch)
def Rec.plain (r : Rec) : List Int := r.head ++ r.pay
def Rec.bytes (r : Rec) : List Int := sealed r.plain
theorem Rec.head_length (r : Rec) : r.head.length = 14 := by simp [Rec.head, be_length]
theorem Rec.plain_length (r : Rec) : r.plain.length = r.pay.length + 14 := by simp [Rec.plain, Rec.head_length]; omega
theorem Rec.bytes_length (r : Rec) : r.bytes.length = r.pay.length + 18 := by rw [Rec.bytes, sealed_length, Rec.plain_length]
theorem Rec.plain_small {r : Rec} (h : Small r.pay) : Small r.plain := by
  intro x hx
  simp only [Rec.plain, Rec.head, List.mem_append] at hx
  rcases hx with (hx | hx | hx) | hx
  · exact be_small _ _ x hx
  · exact be_small _ _ x hx
  · exact be_small _ _ x hx
  · exact h x hx
/-- Bytes in rows of sixty-four, noughts behind. -/
def pad (l : List Int) : List Int := l ++ List.replicate (64 - l.length) 0
def rows64 : List Int → Nat → List (List Int)
  | _, 0 => []
  | l, n + 1 => pad (l.take 64) :: rows64 (l.drop 64) n
theorem pad_length {l : List Int} (h : l.length ≤ 64) : (pad l).length = 64 := by simp [pad]; omega
theorem rows64_length : ∀ (n : Nat) (l : List Int), (rows64 l n).length = n
  | 0, _ => rfl
  | n + 1, l => by simp [rows64, rows64_length n]
theorem rows64_64 : ∀ (n : Nat) (l : List Int), ∀ r ∈ rows64 l n, r.length = 64
  | 0, _, r, h => by cases h
  | n + 1, l, r, h => by
    rcases List.mem_cons.1 h with rfl | h
    · exact pad_length (by rw [List.length_take]; omega)
    · exact rows64_64 n _ r h
theorem rows64_get : ∀ (n : Nat) (l : List Int) (j : Nat), j < n → (rows64 l n)[j]? = some (pad ((l.drop (64 * j)).take 64))
  | 0, _, _, h => by omega
  | n + 1, l, 0, _ => by simp [rows64]
  | n + 1, l, j + 1, h => by
    rw [rows64, List.getElem?_cons_succ, rows64_get n _ j (by omega), List.drop_drop, show 64 + 64 * j = 64 * (j + 1) by omega]
theorem rows64_flat : ∀ (n : Nat) (l : List Int), l.length ≤ 64 * n → (rows64 l n).flatten = l ++ List.replicate (64 * n - l.length) 0
  | 0, l, h => by
    have : l = [] := List.eq_nil_of_length_eq_zero (by omega)
    subst this; rfl
  | n + 1, l, h => by
    rw [rows64, List.flatten_cons, rows64_flat n _ (by rw [List.length_drop]; omega)]
    by_cases hl : 64 ≤ l.length
    · have e : pad (l.take 64) = l.take 64 := by simp [pad, List.length_take]; omega
      rw [e, ← List.append_assoc, List.take_append_drop, List.length_drop, show 64 * n - (l.length - 64) = 64 * (n + 1) - l.length by omega]
    · rw [List.take_of_length_le (by omega), List.drop_of_length_le (by omega), pad, List.nil_append, List.length_nil, List.append_assoc, List.replicate_append_replicate,
        show 64 - l.length + (64 * n - 0) = 64 * (n + 1) - l.length by omega]
/-- Rows of the same size are told apart by their bytes. -/
theorem flat_inj {k : Nat} (hk : 0 < k) : ∀ {a b : List (List Int)}, (∀ r ∈ a, r.length = k) → (∀ r ∈ b, r.length = k) → a.flatten = b.flatten → a = b
  | [], [], _, _, _ => rfl
  | [], y :: b, _, hb, h => by
    have := congrArg List.length h
    have h2 := hb y (by simp)
    simp only [List.flatten_nil, List.length_nil, List.flatten_cons, List.length_append] at this; omega
  | x :: a, [], ha, _, h => by
    have := congrArg List.length h
    have h2 := ha x (by simp)
    simp only [List.flatten_nil, List.length_nil, List.flatten_cons, List.length_append] at this; omega
  | x :: a, y :: b, ha, hb, h => by
    have h1 := ha x (by simp)
    have h2 := hb y (by simp)
    rw [List.flatten_cons, List.flatten_cons] at h
    obtain ⟨rfl, e⟩ := List.append_inj h (by omega)
    rw [flat_inj hk (fun r hr => ha r (by simp [hr])) (fun r hr => hb r (by simp [hr])) e]
theorem flat_length {k : Nat} : ∀ {a : List (List Int)}, (∀ r ∈ a, r.length = k) → a.flatten.length = a.length * k
  | [], _ => by simp
  | x :: a, h => by
    rw [List.flatten_cons, List.length_append, h x (by simp), flat_length (fun r hr => h r (by simp [hr])), List.length_cons, Nat.add_mul]; omega

/-- A record's sectors. -/
def Rec.many (r : Rec) : Nat := (secs r.pay.length).toNat
def Rec.good (r : Rec) : Prop := r.pay.length ≤ 700 ∧ r.seq ≠ 0
instance (r : Rec) : Decidable r.good := inferInstanceAs (Decidable (_ ∧ _))
def Rec.err (r : Rec) : Int := if r.good then 0 else 81
def Rec.made (r : Rec) : List (List Int) := if r.good then rows64 r.bytes r.many else []
theorem Rec.many_of {r : Rec} (h : r.pay.length ≤ 700) : r.many = (r.pay.length + 81) / 64 := by
  unfold Rec.many secs; rw [if_pos (by omega)]; omega
theorem Rec.made_64 (r : Rec) : ∀ s ∈ r.made, s.length = 64 := by
  unfold Rec.made
  split
  · exact rows64_64 _ _
  · intro s hs; cases hs
theorem Rec.made_length {r : Rec} (h : r.good) : r.made.length = r.many := by
  rw [Rec.made, if_pos h, rows64_length]
theorem Rec.made_flat {r : Rec} (h : r.good) : r.made.flatten = r.bytes ++ List.replicate (64 * r.many - r.bytes.length) 0 := by
  rw [Rec.made, if_pos h, rows64_flat]
  rw [r.bytes_length, Rec.many_of h.1]; omega

theorem Rec.made_nil {r : Rec} (h : ¬ r.good) : r.made = [] := if_neg h

/-- What the first sectors seem to say. -/
def saidSize (l : List (List Int)) : Int := val (l.flatten.take 2)
def said (l : List (List Int)) : Rec :=
  ⟨val ((l.flatten.drop 2).take 8), val ((l.flatten.drop 10).take 4), (l.flatten.drop 14).take (saidSize l).toNat⟩
def saidMany (l : List (List Int)) : Int := secs (saidSize l)
/-- Is there a record, and does it fill the first ones of these sectors? -/
def isRec (l : List (List Int)) : Prop := 0 < l.length ∧ 0 < saidMany l ∧ saidMany l ≤ l.length ∧ (said l).seq ≠ 0 ∧ (said l).made = l.take (saidMany l).toNat
instance (l : List (List Int)) : Decidable (isRec l) := inferInstanceAs (Decidable (_ ∧ _))
def openedR (l : List (List Int)) : Rec := if isRec l then said l else noRec
def openedN (l : List (List Int)) : Int := if isRec l then saidMany l else 0

/-- Sectors of bytes. -/
structure Secs (l : List (List Int)) : Prop where
  len : ∀ s ∈ l, s.length = 64
  small : ∀ s ∈ l, Small s
theorem secs_nil : Secs [] := ⟨(fun s hs => by cases hs), (fun s hs => by cases hs)⟩
theorem Secs.flat_small {l : List (List Int)} (h : Secs l) : Small l.flatten := by
  intro x hx
  obtain ⟨s, hs, hx⟩ := List.mem_flatten.1 hx
  exact h.small s hs x hx
theorem Secs.take {l : List (List Int)} (h : Secs l) (n : Nat) : Secs (l.take n) := ⟨fun s hs => h.len s (List.mem_of_mem_take hs), fun s hs => h.small s (List.mem_of_mem_take hs)⟩
theorem Secs.append {a b : List (List Int)} (h : Secs a) (k : Secs b) : Secs (a ++ b) :=
  ⟨fun s hs => (List.mem_append.1 hs).elim (h.len s) (k.len s), fun s hs => (List.mem_append.1 hs).elim (h.small s) (k.small s)⟩

/-- What is known of sectors that are so many at least as their first bytes say. -/
structure Said (l : List (List Int)) (n m : Nat) : Prop where
  size : saidSize l = n
  many : saidMany l = m
  le : n ≤ 700
  m_eq : m = (n + 81) / 64
  m_le : m ≤ l.length
  long : 64 * m ≤ l.flatten.length
  pay : (said l).pay = (l.flatten.drop 14).take n
  pay_len : (said l).pay.length = n
  plain : (said l).plain = l.flatten.take (14 + n)
  flat : (l.take m).flatten = l.flatten.take (64 * m)
theorem said_ok {l : List (List Int)} (h : Secs l) (h1 : 0 < saidMany l) (h2 : saidMany l ≤ l.length) : ∃ n m, Said l n m := by
  have hm := h1
  unfold saidMany secs at hm
  split at hm
  case isFalse => omega
  rename_i hr
  obtain ⟨n, hn⟩ := Int.eq_ofNat_of_zero_le hr.1
  have hmany : saidMany l = ((n + 81) / 64 : Nat) := by unfold saidMany secs; rw [if_pos hr, hn]; omega
  have hfl := flat_length h.len
  have hml : (n + 81) / 64 ≤ l.length := by omega
  have hlong : 64 * ((n + 81) / 64) ≤ l.flatten.length := by rw [hfl]; omega
  have hpay : (said l).pay = (l.flatten.drop 14).take n := by simp [said, hn]
  have hpl : (said l).pay.length = n := by rw [hpay, List.length_take, List.length_drop]; omega
  have hs := h.flat_small
  have tk : ∀ (a b : Nat), Small ((l.flatten.drop a).take b) := fun a b x hx => hs x (List.mem_of_mem_drop (List.mem_of_mem_take hx))
  refine ⟨n, (n + 81) / 64, hn, hmany, by omega, rfl, hml, hlong, hpay, hpl, ?_, ?_⟩
  · have e1 : be 2 (said l).pay.length = l.flatten.take 2 := by
      rw [hpl]
      have := be_val 2 (l.flatten.take 2) (by rw [List.length_take]; omega) (fun x hx => hs x (List.mem_of_mem_take hx))
      rw [← hn]; exact this
    have e2 : be 8 (said l).seq = (l.flatten.drop 2).take 8 := be_val 8 _ (by rw [List.length_take, List.length_drop]; omega) (tk 2 8)
    have e3 : be 4 (said l).epoch = (l.flatten.drop 10).take 4 := be_val 4 _ (by rw [List.length_take, List.length_drop]; omega) (tk 10 4)
    rw [Rec.plain, Rec.head, e1, e2, e3, hpay]
    have g : ∀ (L : List Int), L.take 2 ++ ((L.drop 2).take 8 ++ (L.drop 10).take 4) ++ (L.drop 14).take n = L.take (14 + n) := by
      intro L
      have a1 : L.take (14 + n) = L.take 14 ++ (L.drop 14).take n := List.take_add ..
      have a2 : L.take 14 = L.take 2 ++ (L.drop 2).take 12 := List.take_add (i := 2) (j := 12) ..
      have a3 : (L.drop 2).take 12 = (L.drop 2).take 8 ++ (L.drop 10).take 4 := by
        have := List.take_add (l := L.drop 2) (i := 8) (j := 4)
        rw [List.drop_drop] at this
        exact this
      rw [a1, a2, a3]
    exact g _
  · have := flat_length (k := 64) (a := l.take ((n + 81) / 64)) (fun r hr => h.len r (List.mem_of_mem_take hr))
    have e : l.flatten = (l.take ((n + 81) / 64)).flatten ++ (l.drop ((n + 81) / 64)).flatten := by rw [← List.flatten_append, List.take_append_drop]
    have z : 64 * ((n + 81) / 64) = (l.take ((n + 81) / 64)).flatten.length := by rw [this, List.length_take]; omega
    rw [z]
    generalize (l.take ((n + 81) / 64)).flatten = X at *
    rw [e]
    simp

theorem zeros_iff : ∀ (L : List Int), (∀ x ∈ L, x = 0) ↔ L = List.replicate L.length 0
  | [] => by simp
  | x :: L => by
    rw [List.length_cons, List.replicate_succ, List.cons.injEq, ← zeros_iff L]
    simp
/-- What the program asks of sectors. -/
theorem isRec_iff {l : List (List Int)} (h : Secs l) {n m : Nat} (hs : Said l n m) :
    isRec l ↔ (Crc.opens ((l.flatten.take (64 * m)).take (18 + n)) = true ∧ (∀ x ∈ (l.flatten.take (64 * m)).drop (18 + n), x = 0)) ∧ (said l).seq ≠ 0 := by
  have hm := hs.m_eq
  have hpos : 0 < m := by omega
  have hlen : (l.flatten.take (64 * m)).length = 64 * m := by rw [List.length_take]; have := hs.long; omega
  have hb : ((l.flatten.take (64 * m)).take (18 + n)).length = 18 + n := by rw [List.length_take, hlen]; omega
  have e0 : (l.flatten.take (64 * m)).take (14 + n) = (said l).plain := by rw [hs.plain, List.take_take, show min (14 + n) (64 * m) = 14 + n by omega]
  generalize hB : l.flatten.take (64 * m) = B at *
  have key : (said l).seq ≠ 0 → ((said l).made = l.take m ↔ (Crc.opens (B.take (18 + n)) = true ∧ ∀ x ∈ B.drop (18 + n), x = 0)) := by
    intro hq
    have hg : (said l).good := ⟨by rw [hs.pay_len]; exact hs.le, hq⟩
    have hmm : (said l).many = m := by rw [Rec.many_of hg.1, hs.pay_len, hm]
    have e1 : (said l).made = l.take m ↔ (said l).made.flatten = B := by
      constructor
      · intro e; rw [e, hs.flat, hB]
      · intro e; exact flat_inj (by decide) (Rec.made_64 _) (fun r hr => h.len r (List.mem_of_mem_take hr)) (by rw [e, hs.flat, hB])
    have hbl := Rec.bytes_length (said l)
    rw [hs.pay_len] at hbl
    rw [e1, Rec.made_flat hg, hmm, hbl]
    have hsplit : B = B.take (18 + n) ++ B.drop (18 + n) := (List.take_append_drop ..).symm
    have hdl : (B.drop (18 + n)).length = 64 * m - (n + 18) := by rw [List.length_drop, hlen]; omega
    have e2 : ((said l).bytes ++ List.replicate (64 * m - (n + 18)) 0 = B) ↔ ((said l).bytes = B.take (18 + n) ∧ List.replicate (64 * m - (n + 18)) 0 = B.drop (18 + n)) := by
      constructor
      · intro e
        rw [hsplit] at e
        exact List.append_inj e (by rw [hbl, hb]; omega)
      · rintro ⟨e3, e4⟩
        rw [e3, e4]; exact hsplit.symm
    rw [e2]
    refine and_congr ?_ ?_
    · have hq : (B.take (18 + n)).take ((B.take (18 + n)).length - 4) = (said l).plain := by
        rw [hb, List.take_take, show min (18 + n - 4) (18 + n) = 14 + n by omega, e0]
      have hpl : (said l).plain.length = 14 + n := by rw [Rec.plain_length, hs.pay_len]; omega
      have hsp : B.take (18 + n) = (said l).plain ++ (B.take (18 + n)).drop ((B.take (18 + n)).length - 4) := by
        rw [← hq]; exact (List.take_append_drop ..).symm
      rw [Crc.opens, decide_eq_true_eq, hq, Rec.bytes, sealed]
      constructor
      · intro e
        refine ⟨by omega, ?_⟩
        rw [hsp] at e
        have := List.append_cancel_left e
        exact this
      · rintro ⟨_, e⟩
        rw [e]; exact hsp.symm
    · rw [zeros_iff, hdl]
      exact ⟨Eq.symm, Eq.symm⟩
  unfold isRec
  have e3 : (saidMany l).toNat = m := by rw [hs.many]; omega
  rw [e3]
  constructor
  · rintro ⟨_, _, _, hq, e⟩
    exact ⟨(key hq).1 e, hq⟩
  · rintro ⟨h1, hq⟩
    exact ⟨by have := hs.m_le; omega, by rw [hs.many]; omega, by rw [hs.many]; have := hs.m_le; omega, hq, (key hq).2 h1⟩
end Go.Proofs.Ytogkibikghbghaa.Frame
