/- The document's scheduler in memory; where a member stands in it. Conditions: none beyond each lemma's own hypotheses. -/
import Derived.Test.YtliepgmjpbjhfaaFgDrrTurns1
import Derived.Test.YtliepgmjpbjhfaaFgDrrRows
set_option linter.unusedVariables false
set_option linter.unusedSimpArgs false
namespace Go.Proofs.Ytliepgmjpbjhfaa.Drr
open Go.RowKit Go.Proofs.Ytliepgmjpbjhfaa.Fg Go.Shelf Go.Maps

def mrow (m : Mb) : List Value := [.int .i64 m.who, .int .u64 m.q, .int .u64 m.df, .bool m.vis]
theorem mrow_4 (ms : List Mb) : ∀ r ∈ ms.map mrow, r.length = 4 := fun r hr => by obtain ⟨x, -, rfl⟩ := List.mem_map.1 hr; rfl
structure RF (w : World) (A1 : Option Addr) (c1 : Nat) (A2 : Option Addr) (c2 : Nat) (s : Sc) : Prop where
  r1 : w.ownsRow 0 75 4 (.slice A1 s.ms.length c1) s.ms.length (s.ms.map mrow).flatten
  r2 : w.ownsRow 0 3 1 (.slice A2 s.act.length c2) s.act.length (iv s.act)
def IsR (w : World) (v : Value) (s : Sc) (G : Nat → Prop) : Prop :=
  ∃ A1 c1 A2 c2, v = .agg #[.slice A1 s.ms.length c1, .slice A2 s.act.length c2] ∧ RF w A1 c1 A2 c2 s ∧ ∀ k, ((Value.slice A1 s.ms.length c1).ownBlock = some k ∨ (Value.slice A2 s.act.length c2).ownBlock = some k) → G k
theorem IsR.same {w w' : World} {v : Value} {s : Sc} {G : Nat → Prop} (h : IsR w v s G) (hb : ∀ k, G k → k < w.heap.size → w'.heap[k]? = w.heap[k]?) : IsR w' v s G := by
  obtain ⟨A1, c1, A2, c2, e, h1, h2⟩ := h
  exact ⟨A1, c1, A2, c2, e, ⟨own_same h1.r1 fun k hk => hb k (h2 k (.inl hk)) (h1.r1.lt k hk).2, own_same h1.r2 fun k hk => hb k (h2 k (.inr hk)) (h1.r2.lt k hk).2⟩, h2⟩
theorem IsR.below {w w' : World} {v : Value} {s : Sc} {G : Nat → Prop} (h : IsR w v s G) (hb : Below w.heap.size w w') : IsR w' v s G := h.same fun k _ hk => hb.block k hk
theorem IsR.mono {w : World} {v : Value} {s : Sc} {G G' : Nat → Prop} (h : IsR w v s G) (hG : ∀ k, k < w.heap.size → G k → G' k) : IsR w v s G' := by
  obtain ⟨A1, c1, A2, c2, e, h1, h2⟩ := h
  exact ⟨A1, c1, A2, c2, e, h1, fun k hk => hG k (hk.elim (fun hk => (h1.r1.lt k hk).2) (fun hk => (h1.r2.lt k hk).2)) (h2 k hk)⟩
/-- What a function of the document makes. -/
def RfE (w : World) (s : Sc) (G : Nat → Prop) (r : Value) (e : Ending) (w' : World) : Prop := ∃ v, e = .returned (.tuple #[v, r]) ∧ IsR w' v s (fun k => G k ∨ w.heap.size ≤ k) ∧ Below w.heap.size w w'

def plcN : List Mb → Int → Nat → Int
  | [], _, _ => -1
  | m :: r, x, i => if m.who = x then (i : Int) else plcN r x (i + 1)
def plc (ms : List Mb) (x : Int) : Int := plcN ms x 0
theorem plcN_at : ∀ (ms : List Mb) (x : Int) (o j : Nat) (m : Mb), (∀ i, i < j → ∀ y, ms[i]? = some y → y.who ≠ x) → ms[j]? = some m → m.who = x → plcN ms x o = (o + j : Nat)
  | [], x, o, j, m, _, h, _ => by simp at h
  | y :: r, x, o, 0, m, _, h, hx => by
    simp only [List.getElem?_cons_zero, Option.some.injEq] at h
    subst h
    rw [plcN, if_pos hx]; rfl
  | y :: r, x, o, j + 1, m, hn, h, hx => by
    simp only [List.getElem?_cons_succ] at h
    rw [plcN, if_neg (hn 0 (by omega) y rfl), plcN_at r x (o + 1) j m (fun i hi z hz => hn (i + 1) (by omega) z (by simpa using hz)) h hx]
    congr 1; omega
theorem plcN_none : ∀ (ms : List Mb) (x : Int) (o : Nat), (∀ m ∈ ms, m.who ≠ x) → plcN ms x o = -1
  | [], _, _, _ => rfl
  | y :: r, x, o, h => by rw [plcN, if_neg (h y (by simp)), plcN_none r x (o + 1) (fun m hm => h m (by simp [hm]))]
theorem plc_none {ms : List Mb} {x : Int} (h : fnd ms x = none) : plc ms x = -1 := plcN_none ms x 0 (fnd_none.1 h)
theorem plcN_some : ∀ (ms : List Mb) (x : Int) (o : Nat) (m : Mb), fnd ms x = some m → ∃ i : Nat, plcN ms x o = (o + i : Nat) ∧ ms[i]? = some m
  | [], x, o, m, h => by cases h
  | y :: r, x, o, m, h => by
    unfold fnd at h
    rw [List.find?_cons] at h
    by_cases e : y.who = x
    · have : (y.who == x) = true := by simpa using e
      rw [this] at h
      injection h with h
      subst h
      exact ⟨0, by rw [plcN, if_pos e]; rfl, rfl⟩
    · have : (y.who == x) = false := by simpa using e
      rw [this] at h
      obtain ⟨i, h1, h2⟩ := plcN_some r x (o + 1) m h
      exact ⟨i + 1, by rw [plcN, if_neg e, h1]; congr 1; omega, by simpa using h2⟩
theorem plc_some {ms : List Mb} {x : Int} {m : Mb} (h : fnd ms x = some m) : ∃ i : Nat, plc ms x = i ∧ ms[i]? = some m ∧ i < ms.length := by
  obtain ⟨i, h1, h2⟩ := plcN_some ms x 0 m h
  exact ⟨i, by unfold plc; rw [h1]; congr 1; omega, h2, (List.getElem?_eq_some_iff.1 h2).1⟩
/-- Of the rows of members, one. -/
theorem mrow_at {w : World} {A : Option Addr} {c : Nat} {ms : List Mb} (h : w.ownsRow 0 75 4 (.slice A ms.length c) ms.length (ms.map mrow).flatten) {j : Nat} {m : Mb} (hj : ms[j]? = some m) :
    ∃ g, A = some ⟨g, 0, none⟩ ∧ w.rangeAt g (j * 4) (mrow m) ∧ g < w.heap.size := by
  obtain ⟨A', c', he, h1, h2, h3, h4⟩ := own_form h
  injection he with he
  subst he
  cases A with
  | none =>
    have := (h3 rfl).1
    have := (List.getElem?_eq_some_iff.1 hj).1
    omega
  | some ad =>
    obtain ⟨g, rfl, hg⟩ := h4 ad rfl
    refine ⟨g, rfl, fun i v hv => hg (j * 4 + i) v ?_, (h.lt g rfl).2⟩
    have hi : i < 4 := by
      have := (List.getElem?_eq_some_iff.1 hv).1
      simpa [mrow] using this
    rw [flat_get8 (mrow_4 ms) j i hi, List.getElem?_map, hj]
    exact hv
theorem memSize : (Try.prog.info? 75).map (·.size) = some 4 := by kernel_rfl
set_option maxRecDepth 100000 in
set_option maxHeartbeats 2000000 in
theorem place_any {w : World} {A1 : Option Addr} {c1 : Nat} {v2 : Value} {ms : List Mb} (h : w.ownsRow 0 75 4 (.slice A1 ms.length c1) ms.length (ms.map mrow).flatten) (x : Int) :
    Calls Try.prog 35 #[.agg #[.slice A1 ms.length c1, v2], .int .i64 x] w fun e w' => e = .returned (.int .i64 (plc ms x)) ∧ Below w.heap.size w w' := by
  have HH := Lib.hid h
  obtain ⟨A', c', he, hc1, hc2, -⟩ := own_form h
  injection he with he _ hec
  subst he hec
  unfold maxLen at hc2
  have B0 : Hid (Below w.heap.size w (w.alloc (.cells #[.slice A1 ms.length c1, v2] 48))) := Lib.hid ((Below.refl _ _).alloc (Nat.le_refl _) _)
  clear h
  go_enter Try.func35, Try.ntmps35
  go_wp2_with fail
  go_loopg [10] ms.length (fun k i wr => ∃ j : Nat, j + k = ms.length ∧ i = .int .i64 j ∧ Below w.heap.size w wr ∧ ∀ i, i < j → ∀ y, ms[i]? = some y → y.who ≠ x)
  case atStart => exact ⟨0, Nat.zero_add _, rfl, B0.out, fun i hi => by omega⟩
  case round =>
    obtain ⟨j, hj, rfl, hb, hn⟩ := hrel
    have BW := Lib.hid hb
    have HN := Lib.hid hn
    clear hb hn
    by_cases hlt : j < ms.length
    · obtain ⟨m, hm⟩ : ∃ m, ms[j]? = some m := ⟨_, List.getElem?_eq_getElem hlt⟩
      obtain ⟨g, rfl, hrg, hgl⟩ := mrow_at HH.out hm
      have HRG : Hid (wr.rangeAt g (j * 4) [.int .i64 m.who, .int .u64 m.q, .int .u64 m.df, .bool m.vis]) := Lib.hid (fun i v hv => (BW.out.cell (p := ⟨g, j * 4 + i, none⟩) hgl).trans (hrg i v hv))
      have Y1 : Hid ((Try.prog.info? 75).map (·.size) = some ([.int .i64 m.who, .int .u64 m.q, .int .u64 m.df, .bool m.vis] : List Value).length) := Lib.hid memSize
      have NX : Hid (Below w.heap.size w (wr.alloc (.cells #[.int .i64 m.who, .int .u64 m.q, .int .u64 m.df, .bool m.vis] 75))) := Lib.hid (BW.out.alloc BW.out.size _)
      have HM := Lib.hid hm
      have hjc : (j : Int) < ms.length := by omega
      clear hrg hm
      by_cases hx : m.who = x
      · have hxb : (m.who == x) = true := by simpa using hx
        have PL : Hid (plc ms x = j) := Lib.hid (by unfold plc; rw [plcN_at ms x 0 j m HN.out HM.out hx]; congr 1; omega)
        clear hx
        go_wp2_with (refine wpList_load_mid rfl 75 (.tmp 13) rfl g (j * 4) rfl [.int .i64 m.who, .int .u64 m.q, .int .u64 m.df, .bool m.vis] _ HRG.out Try.underlying75 rfl Y1.out ?_)
        go_ret
        exact ⟨by rw [PL.out]; rfl, NX.out⟩
      · have hxb : (m.who == x) = false := by simpa using hx
        have HX := Lib.hid hx
        clear hx
        go_wp2_with (refine wpList_load_mid rfl 75 (.tmp 13) rfl g (j * 4) rfl [.int .i64 m.who, .int .u64 m.q, .int .u64 m.df, .bool m.vis] _ HRG.out Try.underlying75 rfl Y1.out ?_)
        go_roundg (gk - 1)
        case measure => omega
        case rel => exact ⟨j + 1, by omega, by go_num, NX.out, fun i hi y hy => by
          rcases Nat.lt_or_ge i j with h | h
          · exact HN.out i h y hy
          · obtain rfl : i = j := by omega
            rw [HM.out] at hy; injection hy with hy; subst hy; exact HX.out⟩
    · have PL : Hid (plc ms x = -1) := Lib.hid (plcN_none ms x 0 (fun m hm => by
        obtain ⟨i, hi⟩ := List.getElem?_of_mem hm
        exact HN.out i (by have := (List.getElem?_eq_some_iff.1 hi).1; omega) m hi))
      go_wp2_with fail
      go_ret
      exact ⟨by rw [PL.out]; rfl, BW.out⟩
end Go.Proofs.Ytliepgmjpbjhfaa.Drr
