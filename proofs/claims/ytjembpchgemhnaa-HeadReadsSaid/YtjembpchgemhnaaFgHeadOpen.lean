/- A header and bytes that came in as arguments. Conditions: none beyond each lemma's own hypotheses. -/
import Derived.Test.YtjembpchgemhnaaFgHeadAlive
import Derived.Lib.SmallJoins
set_option linter.unusedVariables false
set_option linter.unusedSimpArgs false
namespace Go.Proofs.Ytjembpchgemhnaa.Head
open Go.RowKit Go.Proofs.Ytjembpchgemhnaa.Fg Go.ChangeShapes Go.WideShapes Go.ChangeAt

theorem small_wf {l : List Int} (h : ∀ x ∈ l, 0 ≤ x ∧ x ≤ 255) : Small l := h
theorem open_bytes_arg {H : Type} {enc : TypeId × Value → H} {w : World} {spare : Nat → Bool} {held : Bool} {v : Value} {d : DataW H} {p : List MemPlace} {b0 : Nat} {r : Reach}
    (hv : Value.okWide Try.prog w r b0 24 v) (h : DataW.Trod enc Try.prog w 0 spare held 24 v d p) (hw : ∀ n ∈ d.weights Try.prog 24, n ≤ reachBytes) :
    ∃ (A : Option Addr) (c : Nat) (l : List Int), v = .slice A l.length c ∧ Src w A l.length c (bv l) ∧ l.length ≤ reachBytes ∧ Small l := by
  obtain ⟨a0, len0, cap0, rfl⟩ := okWide_slice Try.underlying24 hv
  obtain ⟨fuel, hf⟩ := h
  have hf' : DataW.trod enc Try.prog w 0 spare held fuel 24 [.slice a0 len0 cap0] = some (d, p) := hf
  exact open_bytes hf' hw
theorem trod_four {H : Type} {enc : TypeId × Value → H} {w : World} {base : Nat} {spare : Nat → Bool} {held : Bool} {fuel : Nat} {c0 c1 c2 c3 : Value} {x : DataW H × List MemPlace}
    (h : DataW.trod enc Try.prog w base spare held fuel 23 [c0, c1, c2, c3] = some x) :
    ∃ a b c d : Int, c0 = .int .u8 a ∧ c1 = .int .u8 b ∧ c2 = .int .u8 c ∧ c3 = .int .u8 d ∧ Small [a, b, c, d] := by
  obtain ⟨xs, m, _, _, hlen, hl, hel⟩ := DataW.trod_array Try.underlying23 h
  have hc : Try.prog.cellsOf 5 = 1 := by kernel_rfl
  rw [hc] at hel
  have one : ∀ i (hi : i < 4) (v : Value), ([c0, c1, c2, c3].drop (i * 1)).take 1 = [v] → ∃ z : Int, v = .int .u8 z ∧ 0 ≤ z ∧ z ≤ 255 := by
    intro i hi v hv
    have := hel i hi
    rw [hv] at this
    obtain ⟨y, hy⟩ : ∃ y, xs[i]? = some y := ⟨xs[i]'(by omega), List.getElem?_eq_getElem (by omega)⟩
    rw [hy] at this
    obtain ⟨z, e1, _, wz⟩ := DataW.trod_int Try.underlying5 this
    have hmin : IntKind.u8.min = 0 := rfl
    have hmax : IntKind.u8.max = 255 := rfl
    simp only [Lit.wf, Bool.and_eq_true, decide_eq_true_eq, hmin, hmax] at wz
    injection e1 with e1
    exact ⟨z, e1, wz.1, wz.2⟩
  obtain ⟨a, ha, a1, a2⟩ := one 0 (by decide) c0 rfl
  obtain ⟨b, hb, b1, b2⟩ := one 1 (by decide) c1 rfl
  obtain ⟨c, hc, c1', c2'⟩ := one 2 (by decide) c2 rfl
  obtain ⟨d, hd, d1, d2⟩ := one 3 (by decide) c3 rfl
  refine ⟨a, b, c, d, ha, hb, hc, hd, fun x hx => ?_⟩
  simp only [List.mem_cons, List.not_mem_nil, or_false] at hx
  omega

theorem list14 {α : Type} {l : List α} (h : l.length = 14) : ∃ a0 a1 a2 a3 a4 a5 a6 a7 a8 a9 a10 a11 a12 a13, l = [a0, a1, a2, a3, a4, a5, a6, a7, a8, a9, a10, a11, a12, a13] := by
  match l, h with
  | [a0, a1, a2, a3, a4, a5, a6, a7, a8, a9, a10, a11, a12, a13], _ => exact ⟨_, _, _, _, _, _, _, _, _, _, _, _, _, _, rfl⟩

theorem open_head {H : Type} {enc : TypeId × Value → H} {w : World} {spare : Nat → Bool} {held : Bool} {v : Value} {d : DataW H} {p : List MemPlace} {b0 : Nat} {r : Reach}
    (hv' : Value.okWide Try.prog w r b0 26 v) (h : DataW.Trod enc Try.prog w 0 spare held 26 v d p) (hw : ∀ n ∈ d.weights Try.prog 26, n ≤ reachBytes) :
    ∃ (H : Hd) (A : Option Addr) (c : Nat), v = .agg (hv H A c) ∧ Src w A H.opts.length c (bv H.opts) ∧ H.opts.length ≤ reachBytes ∧ H.small := by
  obtain ⟨cs, rfl, hsz⟩ := okWide_struct Try.underlying26 hv'
  have hC : Try.prog.cellsOf 26 = 14 := by kernel_rfl
  rw [hC] at hsz
  obtain ⟨l⟩ := cs
  obtain ⟨a0, a1, a2, a3, a4, a5, a6, a7, a8, a9, a10, a11, a12, a13, rfl⟩ := list14 (l := l) (by simpa using hsz)
  obtain ⟨fuel, hf⟩ := h
  obtain ⟨xs, n, _, hx, _, hlen, hfs⟩ := DataW.trod_struct Try.underlying26 hf
  match xs, hlen with
  | [y0, y1, y2, y3, y4, y5, y6, y7], _ =>
    have c3 : Try.prog.cellsOf 3 = 1 := by kernel_rfl
    have c23 : Try.prog.cellsOf 23 = 4 := by kernel_rfl
    have c24 : Try.prog.cellsOf 24 = 1 := by kernel_rfl
    have e0 := hfs 0 _ rfl
    have e1 := hfs 1 _ rfl
    have e2 := hfs 2 _ rfl
    have e3 := hfs 3 _ rfl
    have e4 := hfs 4 _ rfl
    have e5 := hfs 5 _ rfl
    have e6 := hfs 6 _ rfl
    have e7 := hfs 7 _ rfl
    simp only [c3, c23, c24, Value.cells, List.drop_succ_cons, List.drop_zero, List.take_succ_cons, List.take_zero, List.getElem?_cons_zero, List.getElem?_cons_succ] at e0 e1 e2 e3 e4 e5 e6 e7
    obtain ⟨z0, q0, _, _⟩ := DataW.trod_int Try.underlying3 e0
    obtain ⟨z1, q1, _, _⟩ := DataW.trod_int Try.underlying3 e1
    obtain ⟨z2, q2, _, _⟩ := DataW.trod_int Try.underlying3 e2
    obtain ⟨z3, q3, _, _⟩ := DataW.trod_int Try.underlying3 e3
    obtain ⟨z4, q4, _, _⟩ := DataW.trod_int Try.underlying3 e4
    obtain ⟨s0, s1, s2, s3, q5, q6, q7, q8, hs⟩ := trod_four e5
    obtain ⟨d0, d1, d2, d3, q9, q10, q11, q12, hd⟩ := trod_four e6
    obtain ⟨av, ln, cp, q13⟩ := Go.Joins.slice_form Try.underlying24 e7
    injection q0 with q0
    injection q1 with q1
    injection q2 with q2
    injection q3 with q3
    injection q4 with q4
    injection q13 with q13
    subst q0 q1 q2 q3 q4 q5 q6 q7 q8 q9 q10 q11 q12 q13
    obtain ⟨A, c, o, ho, hsrc, hol, hos⟩ := open_bytes e7 (fun k hk => hw k (by
      simp only [Prod.mk.injEq] at hx
      obtain ⟨rfl, -⟩ := hx
      simp only [DataW.weights, Try.underlying26, List.map_cons, List.map_nil, DataW.weightsEach, List.mem_append]
      simp [hk]))
    rw [ho]
    refine ⟨⟨z0, z1, z2, z3, z4, s0, s1, s2, s3, d0, d1, d2, d3, o⟩, A, c, rfl, hsrc, hol, hos, ?_⟩
    intro x hx
    rcases List.mem_append.1 (show x ∈ [s0, s1, s2, s3] ++ [d0, d1, d2, d3] from hx) with h | h
    · exact hs x h
    · exact hd x h
end Go.Proofs.Ytjembpchgemhnaa.Head
