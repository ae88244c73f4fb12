/- The plain law of the sums of headers: pairs of bytes added with the carry brought round. No program in sight. -/
import Derived.Test.YtjembpchgemhnaaFgBase
set_option linter.unusedVariables false
set_option linter.unusedSimpArgs false
namespace Go.Proofs.Ytjembpchgemhnaa.Head

def Small (l : List Int) : Prop := ∀ x ∈ l, 0 ≤ x ∧ x ≤ 255
theorem Small.take {l : List Int} (h : Small l) (n : Nat) : Small (l.take n) := fun x hx => h x (List.mem_of_mem_take hx)
theorem Small.drop {l : List Int} (h : Small l) (n : Nat) : Small (l.drop n) := fun x hx => h x (List.mem_of_mem_drop hx)
theorem Small.append {l m : List Int} (h : Small l) (k : Small m) : Small (l ++ m) := fun x hx => (List.mem_append.1 hx).elim (h x) (k x)
theorem Small.set {l : List Int} (h : Small l) (n : Nat) (c : Int) (hc : 0 ≤ c ∧ c ≤ 255) : Small (l.set n c) := fun x hx => by
  rcases List.mem_or_eq_of_mem_set hx with h1 | h1
  · exact h x h1
  · subst h1; exact hc

/-- The pairs' sum. -/
def tot : List Int → Int
  | [] => 0
  | [a] => 256 * a
  | a :: b :: r => 256 * a + b + tot r
theorem tot_snoc : ∀ (l : List Int) (c : Int), tot (l ++ [c]) = tot l + (if l.length % 2 = 0 then 256 * c else c)
  | [], c => by simp [tot]
  | [a], c => by simp [tot]
  | a :: b :: r, c => by
    have h := tot_snoc r c
    simp only [List.cons_append, tot, h, List.length_cons]
    by_cases e : r.length % 2 = 0
    · rw [if_pos e, if_pos (by omega)]; omega
    · rw [if_neg e, if_neg (by omega)]; omega
theorem tot_append : ∀ (l m : List Int), l.length % 2 = 0 → tot (l ++ m) = tot l + tot m
  | [], m, _ => by simp [tot]
  | [a], m, h => by simp at h
  | a :: b :: r, m, h => by
    have e := tot_append r m (by simp at h; omega)
    simp only [List.cons_append, tot, e]
    omega
theorem tot_bd : ∀ (l : List Int), Small l → 0 ≤ tot l ∧ tot l ≤ 65280 * l.length
  | [], _ => by simp [tot]
  | [a], h => by have := h a (by simp); simp [tot]; omega
  | a :: b :: r, h => by
    have h1 := h a (by simp)
    have h2 := h b (by simp)
    have h3 := tot_bd r fun x hx => h x (by simp [hx])
    simp only [tot, List.length_cons]
    omega
theorem tot_take_succ (l : List Int) (j : Nat) (h : j < l.length) : tot (l.take (j + 1)) = tot (l.take j) + (if j % 2 = 0 then 256 * l[j] else l[j]) := by
  rw [List.take_add_one, List.getElem?_eq_getElem h, Option.toList_some, tot_snoc, List.length_take, Nat.min_eq_left (by omega)]

/-- A number with its carries brought round. -/
def fin (t : Int) : Int := if t = 0 then 0 else (t - 1) % 65535 + 1
theorem fin_bd (t : Int) : 0 ≤ fin t ∧ fin t ≤ 65535 := by unfold fin; split <;> omega
theorem fin_same (t : Int) (h0 : 0 ≤ t) (h : t ≤ 65535) : fin t = t := by unfold fin; split <;> omega
theorem fin_round (t : Int) (h : 65535 < t) : fin (t / 65536 + t % 65536) = fin t := by
  unfold fin
  rw [if_neg (by omega), if_neg (by omega)]
  omega
theorem fin_minus (s t : Int) (hs : 0 ≤ s) (ht : 0 ≤ t) (h : t ≤ 65535) : fin (fin s + t) = fin (s + t) := by
  unfold fin
  by_cases h1 : s = 0
  · subst h1; simp
  · rw [if_neg h1]
    by_cases h2 : s + t = 0
    · omega
    · rw [if_neg h2, if_neg (by omega)]
      omega
theorem fin_zero {t : Int} (h : 0 ≤ t) : fin t = 0 ↔ t = 0 := by unfold fin; split <;> omega
theorem fin_mod {s t : Int} (hs : 0 < s) (ht : 0 < t) : fin s = fin t ↔ (s - t) % 65535 = 0 := by
  unfold fin; rw [if_neg (by omega), if_neg (by omega)]; omega
/-- The sum of bytes. -/
def sumH (l : List Int) : Int := 65535 - fin (tot l)
theorem sumH_bd (l : List Int) : 0 ≤ sumH l ∧ sumH l ≤ 65535 := by have := fin_bd (tot l); unfold sumH; omega

end Go.Proofs.Ytjembpchgemhnaa.Head
