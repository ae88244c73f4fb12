/- The law CrcLinear of floodgate's crc layer: the sums of three texts of one length, bit by bit without carry. There are no conditions. -/
import Derived.Test.YtgpfjeoomaadoaaFgCrcSums
namespace Go.Proofs.Ytgpfjeoomaadoaa.Crc
open Go.RowKit Go.Proofs.Ytgpfjeoomaadoaa.Fg Go.ChangeShapes Go.WideShapes Go.ChangeAt

/-- Three bytes, bit by bit without carry. -/
def x3 (a b c : Int) : Int := bits .xor .u8 (bits .xor .u8 a b) c
def byte (a : Int) : Prop := 0 ≤ a ∧ a ≤ 255
theorem x2_nat {a b : Int} (ha : byte a) (hb : byte b) : bits .xor .u8 a b = ((a.toNat ^^^ b.toNat : Nat) : Int) := u8_xor a b ha.1 (by have := ha.2; omega) hb.1 (by have := hb.2; omega)
theorem x2_byte {a b : Int} (ha : byte a) (hb : byte b) : byte (bits .xor .u8 a b) := by
  rw [x2_nat ha hb]
  have h := Nat.xor_lt_two_pow (x := a.toNat) (y := b.toNat) (n := 8) (by have := ha.2; omega) (by have := hb.2; omega)
  exact ⟨by omega, by omega⟩
theorem inj_x2 {a b : Int} (ha : byte a) (hb : byte b) : inj (bits .xor .u8 a b) = inj a ^^^ inj b := by
  rw [x2_nat ha hb]
  have e : ∀ n : Nat, BitVec.ofInt 32 (n : Int) = BitVec.ofNat 32 n := fun _ => rfl
  have ea : a = ((a.toNat : Nat) : Int) := by have := ha.1; omega
  have eb : b = ((b.toNat : Nat) : Int) := by have := hb.1; omega
  generalize a.toNat = n at *
  generalize b.toNat = m at *
  subst ea eb
  simp only [inj, e]
  rw [← BitVec.shiftLeft_xor_distrib, BitVec.ofNat_xor]
theorem inj_x3 {a b c : Int} (ha : byte a) (hb : byte b) (hc : byte c) : inj (x3 a b c) = inj a ^^^ inj b ^^^ inj c := by
  rw [x3, inj_x2 (x2_byte ha hb) hc, inj_x2 ha hb]
theorem feed_x3 (s t u : BitVec 32) {a b c : Int} (ha : byte a) (hb : byte b) (hc : byte c) : feed (s ^^^ t ^^^ u) (x3 a b c) = feed s a ^^^ feed t b ^^^ feed u c := by
  rw [feed, feed, feed, feed, ← shN_xor, ← shN_xor, inj_x3 ha hb hc]
  generalize inj a = p
  generalize inj b = q
  generalize inj c = r
  have e : s ^^^ t ^^^ u ^^^ (p ^^^ q ^^^ r) = s ^^^ p ^^^ (t ^^^ q) ^^^ (u ^^^ r) := by ac_rfl
  rw [e]
/-- Three texts of one length. -/
def xs3 : List Int → List Int → List Int → List Int
  | a :: xs, b :: ys, c :: zs => x3 a b c :: xs3 xs ys zs
  | _, _, _ => []
theorem feeds_x3 : ∀ (xs ys zs : List Int) (s t u : BitVec 32), Small xs → Small ys → Small zs → xs.length = ys.length → xs.length = zs.length → feeds (s ^^^ t ^^^ u) (xs3 xs ys zs) = feeds s xs ^^^ feeds t ys ^^^ feeds u zs
  | [], [], [], _, _, _, _, _, _, _, _ => rfl
  | a :: xs, b :: ys, c :: zs, s, t, u, ha, hb, hc, h1, h2 => by
    show feeds (feed (s ^^^ t ^^^ u) (x3 a b c)) (xs3 xs ys zs) = feeds (feed s a) xs ^^^ feeds (feed t b) ys ^^^ feeds (feed u c) zs
    rw [feed_x3 s t u (ha a (List.mem_cons_self ..)) (hb b (List.mem_cons_self ..)) (hc c (List.mem_cons_self ..))]
    exact feeds_x3 xs ys zs _ _ _ (fun x hx => ha x (List.mem_cons_of_mem _ hx)) (fun x hx => hb x (List.mem_cons_of_mem _ hx)) (fun x hx => hc x (List.mem_cons_of_mem _ hx)) (by simpa using h1) (by simpa using h2)
  | [], _ :: _, _, _, _, _, _, _, _, h1, _ => by simp at h1
  | [], [], _ :: _, _, _, _, _, _, _, _, h2 => by simp at h2
  | _ :: _, [], _, _, _, _, _, _, _, h1, _ => by simp at h1
  | _ :: _, _ :: _, [], _, _, _, _, _, _, _, h2 => by simp at h2
theorem sum_x3 (xs ys zs : List Int) (ha : Small xs) (hb : Small ys) (hc : Small zs) (h1 : xs.length = ys.length) (h2 : xs.length = zs.length) : sumOf (xs3 xs ys zs) = sumOf xs ^^^ sumOf ys ^^^ sumOf zs := by
  have h := feeds_x3 xs ys zs (~~~ 0#32) (~~~ 0#32) (~~~ 0#32) ha hb hc h1 h2
  have e : (~~~ 0#32 ^^^ ~~~ 0#32 ^^^ ~~~ 0#32) = ~~~ 0#32 := by decide
  rw [e] at h
  simp only [sumOf, more, h]
  generalize feeds (~~~ 0#32) xs = x
  generalize feeds (~~~ 0#32) ys = y
  generalize feeds (~~~ 0#32) zs = z
  have n : ∀ v : BitVec 32, ~~~ v = v ^^^ BitVec.allOnes 32 := fun v => (BitVec.xor_allOnes).symm
  simp only [n]
  have k : BitVec.allOnes 32 ^^^ BitVec.allOnes 32 = 0#32 := by decide
  generalize BitVec.allOnes 32 = o at *
  calc x ^^^ y ^^^ z ^^^ o = x ^^^ y ^^^ z ^^^ o ^^^ (o ^^^ o) := by rw [k, BitVec.xor_zero]
    _ = x ^^^ o ^^^ (y ^^^ o) ^^^ (z ^^^ o) := by ac_rfl
theorem xs3_length : ∀ (xs ys zs : List Int), xs.length = ys.length → xs.length = zs.length → (xs3 xs ys zs).length = xs.length
  | [], [], [], _, _ => rfl
  | _ :: xs, _ :: ys, _ :: zs, h1, h2 => by simp only [xs3, List.length_cons]; rw [xs3_length xs ys zs (by simpa using h1) (by simpa using h2)]
  | [], _ :: _, _, h1, _ => by simp at h1
  | [], [], _ :: _, _, h2 => by simp at h2
  | _ :: _, [], _, h1, _ => by simp at h1
  | _ :: _, _ :: _, [], _, h2 => by simp at h2
theorem xs3_get : ∀ (xs ys zs : List Int) (j : Nat) (a b c : Int), xs[j]? = some a → ys[j]? = some b → zs[j]? = some c → (xs3 xs ys zs)[j]? = some (x3 a b c)
  | a' :: xs, b' :: ys, c' :: zs, 0, a, b, c, h1, h2, h3 => by
    simp only [List.getElem?_cons_zero, Option.some.injEq] at h1 h2 h3
    subst h1 h2 h3
    rfl
  | a' :: xs, b' :: ys, c' :: zs, j + 1, a, b, c, h1, h2, h3 => by
    simp only [List.getElem?_cons_succ] at h1 h2 h3
    simp only [xs3, List.getElem?_cons_succ]
    exact xs3_get xs ys zs j a b c h1 h2 h3
  | [], _, _, _, _, _, _, h1, _, _ => by simp at h1
  | _ :: _, [], _, _, _, _, _, _, h2, _ => by simp at h2
  | _ :: _, _ :: _, [], _, _, _, _, _, _, h3 => by simp at h3
theorem xs3_small : ∀ (xs ys zs : List Int), Small xs → Small ys → Small zs → Small (xs3 xs ys zs)
  | a :: xs, b :: ys, c :: zs, ha, hb, hc => by
    intro x hx
    rcases List.mem_cons.1 hx with h | h
    · subst h
      exact x2_byte (x2_byte (ha a (List.mem_cons_self ..)) (hb b (List.mem_cons_self ..))) (hc c (List.mem_cons_self ..))
    · exact xs3_small xs ys zs (fun x hx => ha x (List.mem_cons_of_mem _ hx)) (fun x hx => hb x (List.mem_cons_of_mem _ hx)) (fun x hx => hc x (List.mem_cons_of_mem _ hx)) x h
  | [], _, _, _, _, _ => fun x hx => by simp [xs3] at hx
  | _ :: _, [], _, _, _, _ => fun x hx => by simp [xs3] at hx
  | _ :: _, _ :: _, [], _, _, _ => fun x hx => by simp [xs3] at hx

end Go.Proofs.Ytgpfjeoomaadoaa.Crc
