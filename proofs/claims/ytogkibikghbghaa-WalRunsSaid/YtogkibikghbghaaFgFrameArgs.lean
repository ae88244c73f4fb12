/- A record and a slice of sectors that came in as a law's arguments. Conditions: none beyond each lemma's own hypotheses. -/
import Derived.Test.YtogkibikghbghaaFgFrameRef3
import Derived.Deep.Strs
set_option linter.unusedVariables false
set_option linter.unusedSimpArgs false
namespace Go.Proofs.Ytogkibikghbghaa.Frame
open Go.RowKit Go.Proofs.Ytogkibikghbghaa.Fg Go.Proofs.Ytogkibikghbghaa.Crc Go.Proofs.Ytogkibikghbghaa.Disk Go.ChangeShapes Go.WideShapes Go.ChangeAt

theorem list3 {α : Type} {l : List α} (h : l.length = 3) : ∃ a b c, l = [a, b, c] := by
  match l, h with
  | [a, b, c], _ => exact ⟨a, b, c, rfl⟩
set_option maxRecDepth 100000 in
theorem open_rec {H : Type} {enc : TypeId × Value → H} {w : World} {spare : Nat → Bool} {held : Bool} {v : Value} {d : DataW H} {p : List MemPlace} {b0 : Nat} {r : Reach}
    (hv' : Value.okWide Try.prog w r b0 40 v) (h : DataW.Trod enc Try.prog w 0 spare held 40 v d p) (hw : ∀ n ∈ d.weights Try.prog 40, n ≤ reachBytes) :
    ∃ (R : Rec) (A : Option Addr) (c : Nat), v = recv A c R ∧ Fg.Src w A R.pay.length c (bv R.pay) ∧ R.pay.length ≤ reachBytes ∧ R.ok := by
  obtain ⟨cs, rfl, hsz⟩ := okWide_struct Try.underlying40 hv'
  have hC : Try.prog.cellsOf 40 = 3 := by kernel_rfl
  rw [hC] at hsz
  obtain ⟨l⟩ := cs
  obtain ⟨a0, a1, a2, rfl⟩ := list3 (l := l) (by simpa using hsz)
  obtain ⟨fuel, hf⟩ := h
  obtain ⟨y0, y1, y2, n, hx, _, e0, e1, e2⟩ := Go.Deep.trod_struct3 Try.underlying40 hf
  have c1 : Try.prog.cellsOf 29 = 1 := by kernel_rfl
  have c2 : Try.prog.cellsOf 28 = 1 := by kernel_rfl
  have c3 : Try.prog.cellsOf 37 = 1 := by kernel_rfl
  simp only [c1, c2, c3, Value.cells, List.drop_succ_cons, List.drop_zero, List.take_succ_cons, List.take_zero] at e0 e1 e2
  obtain ⟨z0, q0, _, w0⟩ := DataW.trod_int Try.underlying29 e0
  obtain ⟨z1, q1, _, w1⟩ := DataW.trod_int Try.underlying28 e1
  obtain ⟨av, ln, cp, q2⟩ := Go.Joins.slice_form Try.underlying37 e2
  injection q0 with q0
  injection q1 with q1
  injection q2 with q2
  subst q0 q1 q2
  obtain ⟨A, c, o, ho, hsrc, hol, hos⟩ := open_bytes e2 (fun k hk => hw k (by
    simp only [Prod.mk.injEq] at hx
    rw [hx.1]
    simp only [DataW.weights, Try.underlying40, DataW.weightsEach, List.map_cons, List.map_nil]
    exact List.mem_append_right _ (List.mem_append_right _ (List.mem_append_left _ hk))))
  have b0 : 0 ≤ z0 ∧ z0 ≤ 18446744073709551615 := by simpa [Lit.wf, IntKind.min, IntKind.max, IntKind.signed, IntKind.bits] using w0
  have b1 : 0 ≤ z1 ∧ z1 ≤ 4294967295 := by simpa [Lit.wf, IntKind.min, IntKind.max, IntKind.signed, IntKind.bits] using w1
  exact ⟨⟨z0, z1, o⟩, A, c, by rw [ho]; rfl, hsrc, hol, ⟨b0.1, by show z0 < _; omega, b1.1, by show z1 < _; omega, hos⟩⟩

set_option maxRecDepth 100000 in
theorem trod_sec {H : Type} {enc : TypeId × Value → H} {w : World} {base : Nat} {spare : Nat → Bool} {held : Bool} {fuel : Nat} {cs : List Value} {x : DataW H × List MemPlace}
    (h : DataW.trod enc Try.prog w base spare held fuel 77 cs = some x) : ∃ s : List Int, cs = bv s ∧ s.length = 64 ∧ Small s := by
  obtain ⟨xs, m, _, _, hlen, hl, hel⟩ := DataW.trod_array secUnder h
  have hc : Try.prog.cellsOf 5 = 1 := by kernel_rfl
  have hC : Try.prog.cellsOf 77 = 64 := by kernel_rfl
  rw [hc] at hel
  rw [hC] at hlen
  have key : ∀ i, i < 64 → ∃ z : Int, cs[i]? = some (.int .u8 z) ∧ 0 ≤ z ∧ z ≤ 255 := by
    intro i hi
    have := hel i hi
    rw [Nat.mul_one] at this
    obtain ⟨y, hy⟩ : ∃ y, xs[i]? = some y := ⟨xs[i]'(by omega), List.getElem?_eq_getElem (by omega)⟩
    rw [hy] at this
    obtain ⟨z, e1, _, wz⟩ := DataW.trod_int Try.underlying5 this
    have hi2 : i < cs.length := by rw [hlen]; exact hi
    rw [List.drop_eq_getElem_cons hi2] at e1
    simp only [List.take_succ_cons, List.take_zero, List.cons.injEq, and_true] at e1
    refine ⟨z, by rw [List.getElem?_eq_getElem hi2, e1], ?_⟩
    simpa [Lit.wf, IntKind.min, IntKind.max, IntKind.signed, IntKind.bits] using wz
  have gen : ∀ (l : List Value) (n : Nat), l.length = n → (∀ i, i < n → ∃ z : Int, l[i]? = some (.int .u8 z) ∧ 0 ≤ z ∧ z ≤ 255) → ∃ s : List Int, l = bv s ∧ s.length = n ∧ Small s := by
    intro l
    induction l with
    | nil => intro n hn _; exact ⟨[], rfl, by simpa using hn, fun x hx => by cases hx⟩
    | cons c l ih =>
      intro n hn hk
      obtain ⟨z, hz, wz⟩ := hk 0 (by simp at hn; omega)
      simp only [List.getElem?_cons_zero, Option.some.injEq] at hz
      obtain ⟨ys, hy1, hy2, hy3⟩ := ih (n - 1) (by simp at hn; omega) (fun i hi => by simpa using hk (i + 1) (by omega))
      refine ⟨z :: ys, by rw [hz, hy1]; rfl, by simp at hn ⊢; omega, ?_⟩
      intro x hx
      rcases List.mem_cons.1 hx with rfl | hx
      · exact wz
      · exact hy3 x hx
  exact gen cs 64 hlen key

set_option maxRecDepth 100000 in
theorem open_secs {H : Type} {enc : TypeId × Value → H} {w : World} {held : Bool} {v : Value} {d : DataW H} {p : List MemPlace} {b0 : Nat} {r : Reach}
    (hv : Value.okWide Try.prog w r b0 56 v) (h : DataW.Trod enc Try.prog w 0 (fun _ => true) held 56 v d p) :
    ∃ (A : Option Addr) (c : Nat) (l : List (List Int)), v = .slice A l.length c ∧ SecsAt w A c l := by
  obtain ⟨a0, len0, cap0, rfl⟩ := okWide_slice Try.underlying56 hv
  obtain ⟨fuel, hf⟩ := h
  have hf' : DataW.trod enc Try.prog w 0 (fun _ => true) held fuel 56 [.slice a0 len0 cap0] = some (d, p) := hf
  rcases Go.Deep.open_slice Try.underlying56 hf' with ⟨hcs, _⟩ | ⟨a, len, cap, m, n, D, Pl, hcs, _, hl, hm, hmm, hx, hel⟩
  · injection hcs with hcs
    rw [hcs]
    exact ⟨none, 0, [], rfl, ⟨⟨fun _ => ⟨rfl, rfl⟩, Nat.le_refl _, by simp [maxLen], fun _ h => by cases h⟩, (fun h => absurd rfl h), secs_nil⟩⟩
  · injection hcs with hcs
    rw [hcs]
    have hce : Try.prog.cellsOf 77 = 64 := by kernel_rfl
    rw [hce] at hel
    have hlm : len ≤ m := by rw [hmm]; split <;> omega
    have each : ∀ i, i < len → ∃ s : List Int, (∀ j v, (bv s)[j]? = some v → w.cell? ((a.add (i * 64)).add j) = some v) ∧ s.length = 64 ∧ Small s := by
      intro i hi
      obtain ⟨cs', h1, h2⟩ := hel i (by omega)
      obtain ⟨_, hlen, hcell⟩ := World.cells?_some h1
      obtain ⟨s, rfl, hs1, hs2⟩ := trod_sec h2
      refine ⟨s, fun j v hj => ?_, hs1, hs2⟩
      have hj64 : j < 64 := by
        have := (List.getElem?_eq_some_iff.1 hj).1
        rw [bv_length, hs1] at this
        exact this
      rw [hcell j hj64]
      exact hj
    obtain ⟨Q, hQ⟩ := Go.Deep.choose_lt (α := List Int) (p := fun i s => (∀ j v, (bv s)[j]? = some v → w.cell? ((a.add (i * 64)).add j) = some v) ∧ s.length = 64 ∧ Small s) each
    have hok : Secs ((List.range len).map Q) := ⟨fun s hs => by
        obtain ⟨i, hi, rfl⟩ := List.mem_map.1 hs
        exact (hQ i (by simpa using hi)).2.1, fun s hs => by
        obtain ⟨i, hi, rfl⟩ := List.mem_map.1 hs
        exact (hQ i (by simpa using hi)).2.2⟩
    have hll : ((List.range len).map Q).length = len := by simp
    have cell : ∀ j u, (sv ((List.range len).map Q)).flatten[j]? = some u → w.cell? (a.add j) = some u := by
      intro j u hu
      have e : j = j / 64 * 64 + j % 64 := by omega
      rw [e, flat_get (sv_len hok.len) _ _ (Nat.mod_lt _ (by decide))] at hu
      have hj : j / 64 < len := by
        rcases Nat.lt_or_ge (j / 64) len with h | h
        · exact h
        · rw [List.getElem?_eq_none (by simp [sv, h])] at hu; cases hu
      have hq : (sv ((List.range len).map Q))[j / 64]? = some (bv (Q (j / 64))) := by simp [sv, hj]
      rw [hq] at hu
      have := (hQ (j / 64) hj).1 _ _ hu
      rw [Addr.add_add] at this
      rw [e]; exact this
    by_cases h0 : len = 0
    · subst h0
      exact ⟨some a, cap, [], rfl, ⟨⟨(fun h => by cases h), Nat.zero_le _, hm, fun ad had j u hu => by simp [sv] at hu⟩, (fun h => absurd rfl h), secs_nil⟩⟩
    · have hs0 : a.spot = none := by
        have h64 := (hQ 0 (by omega)).2.1
        have z := (hQ 0 (by omega)).1 0 ((bv (Q 0))[0]'(by rw [bv_length]; omega)) (List.getElem?_eq_getElem _)
        simp only [Nat.zero_mul, Addr.add_zero'] at z
        unfold World.cell? at z
        split at z
        · by_cases hs : a.spot.isSome = true
          · rw [if_pos hs] at z; cases z
          · cases hsp : a.spot with
            | none => rfl
            | some x => rw [hsp] at hs; exact absurd rfl hs
        · cases z
      refine ⟨some a, cap, (List.range len).map Q, by rw [hll], ⟨⟨(fun h => by cases h), by rw [hll]; exact hl, hm, fun ad had j u hu => ?_⟩, fun _ ad had => ?_, hok⟩⟩
      · injection had with had
        subst had
        exact cell j u hu
      · injection had with had
        subst had
        obtain ⟨b, o, s⟩ := a
        have : s = none := hs0
        subst this
        exact ⟨b, o, rfl⟩
end Go.Proofs.Ytogkibikghbghaa.Frame
