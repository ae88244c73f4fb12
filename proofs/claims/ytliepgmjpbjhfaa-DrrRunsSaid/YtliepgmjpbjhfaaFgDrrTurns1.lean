/- The walk of DrrTurns. Conditions: none beyond each lemma's own hypotheses. -/
import Derived.Test.YtliepgmjpbjhfaaFgDrrTurnsPure
set_option linter.unusedVariables false
set_option linter.unusedSimpArgs false
namespace Go.Proofs.Ytliepgmjpbjhfaa.Drr
open Go.RowKit Go.Proofs.Ytliepgmjpbjhfaa.Fg Go.Shelf Go.Maps Go.ChangeShapes Go.WideShapes Go.ChangeAt

set_option maxRecDepth 100000 in
theorem open_ints_arg {H : Type} {enc : TypeId × Value → H} {w : World} {held : Bool} {v : Value} {d : DataW H} {p : List MemPlace} {b0 : Nat} {r : Reach}
    (hv : Value.okWide Try.prog w r b0 38 v) (h : DataW.Trod enc Try.prog w 0 (fun _ => true) held 38 v d p) :
    ∃ (A : Option Addr) (c : Nat) (l : List Int), v = .slice A l.length c ∧ Src w A l.length c (iv l) ∧ ∀ n ∈ l, (Lit.int .i64 n).wf = true := by
  obtain ⟨a0, len0, cap0, rfl⟩ := okWide_slice Try.underlying38 hv
  obtain ⟨fuel, hf⟩ := h
  have hf' : DataW.trod enc Try.prog w 0 (fun _ => true) held fuel 38 [.slice a0 len0 cap0] = some (d, p) := hf
  rcases open_ints Try.underlying38 Try.underlying3 (by kernel_rfl) hf' with ⟨hcs, _⟩ | ⟨a, len, cap, zs, hcs, _, hl, hm, hz, _, hcell, hwf⟩
  · injection hcs with hcs
    rw [hcs]
    exact ⟨none, 0, [], rfl, ⟨fun _ => ⟨rfl, rfl⟩, Nat.le_refl _, by simp [maxLen], fun _ h => by cases h⟩, fun n hn => by cases hn⟩
  · injection hcs with hcs
    rw [if_pos rfl] at hz
    have hll : (zs.take len).length = len := by rw [List.length_take]; omega
    refine ⟨some a, cap, zs.take len, by rw [hcs, hll], ⟨(fun h => by cases h), by rw [hll]; exact hl, hm, fun ad had j u hu => ?_⟩, fun n hn => hwf n (List.mem_of_mem_take hn)⟩
    injection had with had
    subst had
    have hj : j < len := by
      have := (List.getElem?_eq_some_iff.1 hu).1
      rw [iv_length, hll] at this
      exact this
    rw [hcell j (by omega), ← hu]
    simp [iv, List.getElem?_take_of_lt hj, List.getD_eq_getElem?_getD, List.getElem?_eq_getElem (show j < zs.length by omega)]
theorem isrc_one {W wr : World} {A : Option Addr} {c : Nat} {l : List Int} (h : Src W A l.length c (iv l)) (hb : Below W.heap.size W wr) {j : Nat} (hj : j < l.length) :
    ∃ ad, A = some ad ∧ wr.cell? (ad.add j) = some (.int .i64 (l[j]'hj)) := by
  cases A with
  | none => have := (h.nil rfl).1; omega
  | some ad =>
    refine ⟨ad, rfl, ?_⟩
    have h0 := h.cells ad rfl j (.int .i64 (l[j]'hj)) (by simp [iv, hj])
    have hbk : ad.block < W.heap.size := h.lt rfl (by
      intro e
      have h1 : (iv l).length = 0 := by rw [e]; rfl
      rw [iv_length] at h1
      omega)
    have e2 : (ad.add j).block = ad.block := by unfold Addr.add; split <;> rfl
    exact (hb.cell (p := ad.add j) (by rw [e2]; exact hbk)).trans h0
/-- Of an owned row, one cell. -/
theorem own_one_cell {w : World} {base : Nat} {v : Value} {l : List Int} (h : w.ownsRow base 3 1 v l.length (iv l)) {j : Nat} (hj : j < l.length) :
    ∃ g c, v = .slice (some ⟨g, 0, none⟩) l.length c ∧ w.cell? ⟨g, j, none⟩ = some (.int .i64 (l[j]'hj)) ∧ g < w.heap.size := by
  obtain ⟨A, c, rfl, h1, h2, h3, h4⟩ := own_form h
  cases A with
  | none => have := (h3 rfl).1; omega
  | some ad =>
    obtain ⟨g, rfl, hg⟩ := h4 ad rfl
    exact ⟨g, c, rfl, hg j _ (by simp [iv, hj]), (h.lt g rfl).2⟩
set_option maxRecDepth 100000 in
set_option maxHeartbeats 2000000 in
theorem sameInts_any {w : World} {b1 b2 : Nat} {va vb : Value} {la lb : List Int} (ha : w.ownsRow b1 3 1 va la.length (iv la)) (hb : w.ownsRow b2 3 1 vb lb.length (iv lb)) :
    Calls Try.prog 16 #[va, vb] w fun e w' => e = .returned (.bool (decide (la = lb))) ∧ Below w.heap.size w w' := by
  obtain ⟨A, c, hva, h1, h2, -⟩ := own_form ha
  obtain ⟨B, d, hvb, h3, h4, -⟩ := own_form hb
  unfold maxLen at h2 h4
  have HA := Lib.hid ha
  have HB := Lib.hid hb
  by_cases hl : la.length = lb.length
  · obtain ⟨n, hn⟩ : ∃ n, la.length = n := ⟨_, rfl⟩
    have HN := Lib.hid hn
    have HM : Hid (lb.length = n) := Lib.hid (by omega)
    rw [hn] at hva h1
    rw [← hl, hn] at hvb h3
    subst hva hvb
    clear hl hn ha hb
    go_enter Try.func16, Try.ntmps16
    go_wp2_with fail
    go_loopg [13] n (fun k v wr => ∃ j : Nat, j + k = n ∧ v = .int .i64 j ∧ Below w.heap.size w wr ∧ la.take j = lb.take j)
    case atStart => exact ⟨0, Nat.zero_add _, rfl, Below.refl _ _, rfl⟩
    case round =>
      obtain ⟨j, hj, rfl, hbw, hsm⟩ := hrel
      have BW := Lib.hid hbw
      have SM := Lib.hid hsm
      clear hbw hsm
      by_cases hlt : j < n
      · obtain ⟨g, c', he, ca, hgl⟩ := own_one_cell HA.out (j := j) (by rw [HN.out]; exact hlt)
        obtain ⟨g', d', he', cb, hgl'⟩ := own_one_cell HB.out (j := j) (by rw [HM.out]; exact hlt)
        injection he with he _ hc'
        injection he' with he' _ hd'
        subst he he' hc' hd'
        obtain ⟨x, hx⟩ : ∃ x, la[j]'(by rw [HN.out]; exact hlt) = x := ⟨_, rfl⟩
        obtain ⟨y, hy⟩ : ∃ x, lb[j]'(by rw [HM.out]; exact hlt) = x := ⟨_, rfl⟩
        have SX : Hid (la[j]? = some x ∧ lb[j]? = some y) := Lib.hid (by rw [← hx, ← hy]; exact ⟨List.getElem?_eq_getElem _, List.getElem?_eq_getElem _⟩)
        rw [hx] at ca
        rw [hy] at cb
        have da : wr.drew.cell? ⟨g, j, none⟩ = some (.int .i64 x) := (BW.out.cell (p := ⟨g, j, none⟩) hgl).trans ca
        have db : wr.drew.cell? ⟨g', j, none⟩ = some (.int .i64 y) := (BW.out.cell (p := ⟨g', j, none⟩) hgl').trans cb
        have BD : Hid (Below w.heap.size w wr.drew) := Lib.hid (below_dr BW.out)
        have hjc : (j : Int) < n := by omega
        clear hx hy ca cb
        by_cases hxy : x = y
        · have SX2 : Hid (la.take (j + 1) = lb.take (j + 1)) := Lib.hid (by rw [List.take_add_one, List.take_add_one, SM.out, SX.out.1, SX.out.2, hxy])
          have bx : (x == y) = true := by simpa using hxy
          clear hxy
          go_upto_region 6 with fail
          go_region_held3 (fun w' => w'.cell? ⟨g, j, none⟩ = some (.int .i64 x) ∧ w'.cell? ⟨g', j, none⟩ = some (.int .i64 y)) (exact ⟨da, db⟩) (fail)
          go_wp2_with fail
          go_roundg (gk - 1)
          case measure => omega
          case rel => exact ⟨j + 1, by omega, by go_num, BD.out, SX2.out⟩
        · have SX2 : Hid (decide (la = lb) = false) := Lib.hid (decide_eq_false (fun e => hxy (by
            have h1 := SX.out.1
            rw [e, SX.out.2] at h1
            injection h1 with h1
            exact h1.symm)))
          have bx : (x == y) = false := by simpa using hxy
          clear hxy
          go_upto_region 6 with fail
          go_region_held3 (fun w' => w'.cell? ⟨g, j, none⟩ = some (.int .i64 x) ∧ w'.cell? ⟨g', j, none⟩ = some (.int .i64 y)) (exact ⟨da, db⟩) (fail)
          go_wp2_with fail
          go_ret
          exact ⟨by rw [SX2.out]; rfl, BD.out⟩
      · have SX2 : Hid (decide (la = lb) = true) := Lib.hid (decide_eq_true (by
          have h := SM.out
          rwa [List.take_of_length_le (by rw [HN.out]; omega), List.take_of_length_le (by rw [HM.out]; omega)] at h))
        go_wp2_with fail
        go_ret
        exact ⟨by rw [SX2.out]; rfl, BW.out⟩
  · have SX2 : Hid (decide (la = lb) = false) := Lib.hid (decide_eq_false (fun e => hl (by rw [e])))
    have hlb : ((la.length : Int) == (lb.length : Int)) = false := by simp; omega
    subst hva hvb
    clear ha hb
    go_enter Try.func16, Try.ntmps16
    go_wp2_with fail
    go_ret
    exact ⟨by rw [SX2.out]; rfl, Below.refl _ _⟩
theorem sub_any (a b : Int) (ha : 0 ≤ a ∧ a < 18446744073709551616) (hb : 0 ≤ b ∧ b < 18446744073709551616) (w : World) :
    Calls Try.prog 18 #[.int .u64 a, .int .u64 b] w fun e w' => e = .returned (.int .u64 (if b ≤ a then a - b else 0)) ∧ w' = w := by
  by_cases h : b ≤ a
  · have W1 : IntKind.u64.wrap (a - b) = a - b := by simp [IntKind.wrap, IntKind.bits, IntKind.signed]; omega
    have V : Hid ((if b ≤ a then a - b else 0) = a - b) := Lib.hid (if_pos h)
    have b1 : decide (a < b) = false := decide_eq_false (by omega)
    go_enter Try.func18, Try.ntmps18
    go_wp2_with fail
    go_ret
    first | exact ⟨rfl, rfl⟩ | exact ⟨by rw [V.out]; rfl, rfl⟩
  · have V : Hid ((if b ≤ a then a - b else 0) = 0) := Lib.hid (if_neg h)
    have b1 : decide (a < b) = true := decide_eq_true (by omega)
    go_enter Try.func18, Try.ntmps18
    go_wp2_with fail
    go_ret
    first | exact ⟨rfl, rfl⟩ | exact ⟨by rw [V.out]; rfl, rfl⟩

/-- A row beside a scheduler: none of its blocks is the scheduler's. -/
def RowB (W w : World) (F : Nat → Prop) (v : Value) (l : List Int) : Prop := w.ownsRow W.heap.size 3 1 v l.length (iv l) ∧ ∀ b, v.ownBlock = some b → ¬ F b
theorem RowB.turn {W w w' : World} {F F' : Nat → Prop} {v : Value} {l : List Int} (h : RowB W w F v l) (hk : Keep F w w') (hF : ∀ k, F' k → F k ∨ w.heap.size ≤ k) : RowB W w' F' v l :=
  ⟨own_same h.1 fun k hk2 => hk.block k (h.1.lt k hk2).2 (h.2 k hk2), fun b hb hf => (hF b hf).elim (h.2 b hb) (fun hge => absurd (h.1.lt b hb).2 (Nat.not_lt.2 hge))⟩
theorem RowB.below {W w w' : World} {F : Nat → Prop} {v : Value} {l : List Int} (h : RowB W w F v l) (hb : Below w.heap.size w w') : RowB W w' F v l := h.turn (Keep.of_new hb) (fun _ h => .inl h)
/-- A scheduler and a row beside it. -/
def DR (W w : World) (sb : Nat) (s : Sc) (F : Nat → Prop) (v : Value) (l : List Int) : Prop := DS W w sb s F ∧ RowB W w F v l
theorem DR.turn {W w w' : World} {sb : Nat} {s s' : Sc} {F : Nat → Prop} {v : Value} {l : List Int} (h : DR W w sb s F v l) (t : Trn w sb s' F w') : ∃ F', DR W w' sb s' F' v l := by
  obtain ⟨F', h1, h2, h3⟩ := t
  exact ⟨F', ⟨h1, h.1.2.1.trans (h2.below h.1.2.1.size h.1.2.2), fun k hk => (h3 k hk).elim (h.1.2.2 k) (Nat.le_trans h.1.2.1.size)⟩, h.2.turn h2 h3⟩
theorem DR.below {W w w' : World} {sb : Nat} {s : Sc} {F : Nat → Prop} {v : Value} {l : List Int} (h : DR W w sb s F v l) (hb : Below w.heap.size w w') : DR W w' sb s F v l := ⟨h.1.below hb, h.2.below hb⟩
theorem DR.push {W w w2 : World} {o : Obj} {sb : Nat} {s : Sc} {F : Nat → Prop} {v v' : Value} {l : List Int} {x : Int} (h : DR W w sb s F v l) (ho : w2.ownsRow W.heap.size 3 1 v' (l.length + 1) (iv l ++ [.int .i64 x]))
    (hg : (w.alloc o).grownBy w2 v.ownBlock) (hat : v'.ownBlock = v.ownBlock ∨ v'.ownBlock = some (w.heap.size + 1)) : DR W w2 sb s F v' (l ++ [x]) := by
  have h1 := h.below ((Below.refl _ _).alloc (Nat.le_refl _) o)
  have hkp : ∀ k, F k → w2.heap[k]? = (w.alloc o).heap[k]? := fun k hk => hg.block k (h1.1.1.lt k hk) (fun e => h1.2.2 k e.symm hk)
  refine ⟨⟨?_, h1.1.2.1.trans ((Below.refl _ _).grown hg h1.1.2.1.size (fun k hk => (h1.2.1.lt k hk).1)), h1.1.2.2⟩, ?_, fun b hb hf => ?_⟩
  · obtain ⟨mb, D, bl, va, hi⟩ := h1.1.1
    exact ⟨mb, D, bl, va, hi.same hkp⟩
  · simpa [iv] using ho
  · rcases hat with e | e
    · exact h.2.2 b (e ▸ hb) hf
    · rw [e] at hb
      injection hb with hb
      have := h.1.1.lt b hf
      omega
def TnA (W : World) (sb : Nat) (v : Value) (w : World) : Prop := ∃ order F, DR W w sb (tn order) F v order ∧ order.length ≤ 8
def TnB (W : World) (sb i : Nat) (v : Value) (order : List Int) (w : World) : Prop := ∃ s F, DR W w sb s F v order ∧ Tn order i s
set_option maxRecDepth 100000 in
set_option maxHeartbeats 4000000 in
theorem turns_law (A : Option Addr) (c : Nat) (l : List Int) (B : Option Addr) (d : Nat) (m : List Int) (W : World) (hs : Src W A l.length c (iv l)) (hl : ∀ n ∈ l, (Lit.int .i64 n).wf = true)
    (hs2 : Src W B m.length d (uv m)) (hl2 : ∀ n ∈ m, 0 ≤ n ∧ n < 18446744073709551616) :
    Calls Try.prog 4 #[.slice A l.length c, .slice B m.length d] W fun e w' => e = .returned (.bool true) ∧ Below W.heap.size W w' := by
  have HS := Lib.hid hs
  have HL := Lib.hid hl
  have HS2 := Lib.hid hs2
  have HL2 := Lib.hid hl2
  have hm := hs.most
  have hm2 := hs.cap
  have hm3 := hs2.most
  have hm4 := hs2.cap
  unfold maxLen at hm hm3
  clear hs hl hs2 hl2
  go_enter Try.func4, Try.ntmps4
  go_wp2_with fail
  refine (alive_any W).mono ?_
  rintro e w0 ⟨rfl, hb0⟩
  have HB0 := Lib.hid hb0
  clear hb0
  by_cases h1 : (30 : Int) < l.length
  · go_wp2_with fail
    go_ret
    exact ⟨rfl, HB0.out⟩
  by_cases h2 : (60 : Int) < m.length
  · go_wp2_with fail
    go_ret
    exact ⟨rfl, HB0.out⟩
  have c1 : decide ((30 : Int) < l.length) = false := decide_eq_false h1
  have c2 : decide ((60 : Int) < m.length) = false := decide_eq_false h2
  go_wp2_with fail
  clear c1 c2
  refine (new_any w0).mono ?_
  rintro e w1 ⟨sb, F1, rfl, hn1, b1, f1⟩
  have l1 : DS W w1 sb (tn []) F1 := new_ds HB0.out hn1 b1 f1
  have A1 : Hid (TnA W sb (.slice (some ⟨w1.heap.size, 0, none⟩) 0 0) (w1.alloc (.cells #[] 3))) := Lib.hid ⟨[], F1, ⟨l1.below ((Below.refl _ _).alloc (Nat.le_refl _) _), World.ownsRow_made w1 #[] 0 l1.2.1.size (Nat.zero_le _) rfl, fun b hb hf => by
    have hb : w1.heap.size = b := by simpa [Value.ownBlock] using hb
    have := l1.1.lt b hf
    omega⟩, by decide⟩
  clear hn1 b1 f1 l1
  go_wp2_with fail
  go_loopg [34, 6] l.length (fun k i v wr => ∃ j : Nat, j + k = l.length ∧ i = .int .i64 j ∧ TnA W sb v wr)
  case atStart => exact ⟨0, Nat.zero_add _, rfl, A1.out⟩
  case round =>
    obtain ⟨j, hj, rfl, order, F4, hr4, ho8⟩ := hrel
    have L4 := Lib.hid hr4
    have O8 := Lib.hid ho8
    clear A1
    by_cases hlt : j < l.length
    · obtain ⟨ad, rfl, hc⟩ := isrc_one HS.out L4.out.1.2.1 hlt
      obtain ⟨z, hz⟩ : ∃ z, l[j]'hlt = z := ⟨_, rfl⟩
      have HZ : Hid ((Lit.int .i64 z).wf = true) := Lib.hid (by rw [← hz]; exact HL.out _ (List.getElem_mem hlt))
      rw [hz] at hc
      have hjc : (j : Int) < l.length := by omega
      clear hz hr4 ho8
      obtain ⟨A5, c5, hv5, hc51, hc52, -⟩ := own_form L4.out.2.1
      subst hv5
      unfold maxLen at hc52
      go_wp2_with fail
      refine (set_any L4.out.1.1 z 100 HZ.out (by decide)).mono ?_
      rintro e w5 ⟨rfl, t⟩
      obtain ⟨F5, l5⟩ := L4.out.turn t
      clear t
      by_cases hin : z ∈ order
      · obtain ⟨e1, e2, e3, e4⟩ := tn_old hin
        rw [e2] at l5
        rw [e1]
        have L5 := Lib.hid l5
        clear l5
        go_wp2_with fail
        refine (wake_any L5.out.1.1 z HZ.out).mono ?_
        rintro e w6 ⟨rfl, t⟩
        obtain ⟨F6, l6⟩ := L5.out.turn t
        rw [e4] at l6
        rw [e3]
        have L6 := Lib.hid l6
        have HIN := Lib.hid hin
        clear t l6 e1 e2 e3 e4 hin
        go_wp2_with fail
        obtain ⟨gk0, hgk0⟩ : ∃ x, x = gk := ⟨_, rfl⟩
        have HGK := Lib.hid hgk0
        have HJ := Lib.hid hj
        clear hgk0
        go_loopg [48, 9] order.length (fun k i b wr => ∃ q : Nat, q + k = order.length ∧ i = .int .i64 q ∧ b = .bool ((order.take q).any (· == z)) ∧ w6 = wr)
        case atStart => exact ⟨0, Nat.zero_add _, rfl, rfl, rfl⟩
        case round =>
          obtain ⟨q, hq, rfl, rfl, rfl⟩ := hrel
          by_cases hqlt : q < order.length
          · obtain ⟨g, c', he, ca, -⟩ := own_one_cell L6.out.2.1 (j := q) hqlt
            injection he with he _ hc'
            subst he hc'
            obtain ⟨x, hx⟩ : ∃ x, order[q]'hqlt = x := ⟨_, rfl⟩
            rw [hx] at ca
            have NX : Hid ((order.take (q + 1)).any (· == z) = ((order.take q).any (· == z) || (x == z))) := Lib.hid (by
              rw [List.take_add_one, List.getElem?_eq_getElem hqlt, hx, List.any_append]
              simp)
            have hqc : (q : Int) < order.length := by omega
            cases hb : (order.take q).any (· == z) with
            | true =>
              have NX2 : Hid ((order.take (q + 1)).any (· == z) = true) := Lib.hid (by rw [NX.out, hb]; rfl)
              clear hb
              go_wp2_with fail
              go_roundg (gk - 1)
              case measure => omega
              case rel => exact ⟨q + 1, by omega, by go_num, by rw [NX2.out], rfl⟩
            | false =>
              have NX2 : Hid ((order.take (q + 1)).any (· == z) = (x == z)) := Lib.hid (by rw [NX.out, hb]; rfl)
              clear hb
              go_wp2_with fail
              go_roundg (gk - 1)
              case measure => omega
              case rel => exact ⟨q + 1, by omega, by go_num, by rw [NX2.out], rfl⟩
          · have hqe : (order.take q).any (· == z) = order.any (· == z) := by rw [List.take_of_length_le (by omega)]
            rw [hqe]
            have hany : order.any (· == z) = true := List.any_eq_true.2 ⟨z, HIN.out, by simp⟩
            rw [hany]
            have NX : Hid (TnA W sb (.slice A5 order.length c5) w6) := Lib.hid ⟨order, F6, L6.out, O8.out⟩
            clear hany hqe
            go_wp2_with fail
            go_roundg (gk0 - 1)
            case measure => have := HGK.out; have := HJ.out; omega
            case rel => exact ⟨j + 1, by have := HGK.out; have := HJ.out; omega, by go_num, NX.out⟩
      · by_cases h8 : order.length < 8
        · obtain ⟨e1, e2, e3⟩ := tn_new hin h8
          rw [e1]
          have L5 := Lib.hid l5
          clear l5
          go_wp2_with fail
          refine (wake_any L5.out.1.1 z HZ.out).mono ?_
          rintro e w6 ⟨rfl, t⟩
          obtain ⟨F6, l6⟩ := L5.out.turn t
          rw [e3] at l6
          rw [e2]
          have L6 := Lib.hid l6
          have L6x : Hid (DR W w6 sb (tn (order ++ [z])) F6 (.slice A5 order.length c5) order) := Lib.hid l6
          have HIN := Lib.hid hin
          have OL := Lib.hid h8
          clear t l6 e1 e2 e3 hin h8
          go_wp2_with fail
          obtain ⟨gk0, hgk0⟩ : ∃ x, x = gk := ⟨_, rfl⟩
          have HGK := Lib.hid hgk0
          have HJ := Lib.hid hj
          clear hgk0
          go_loopg [48, 9] order.length (fun k i b wr => ∃ q : Nat, q + k = order.length ∧ i = .int .i64 q ∧ b = .bool ((order.take q).any (· == z)) ∧ w6 = wr)
          case atStart => exact ⟨0, Nat.zero_add _, rfl, rfl, rfl⟩
          case round =>
            obtain ⟨q, hq, rfl, rfl, rfl⟩ := hrel
            by_cases hqlt : q < order.length
            · obtain ⟨g, c', he, ca, -⟩ := own_one_cell L6.out.2.1 (j := q) hqlt
              injection he with he _ hc'
              subst he hc'
              obtain ⟨x, hx⟩ : ∃ x, order[q]'hqlt = x := ⟨_, rfl⟩
              rw [hx] at ca
              have NX : Hid ((order.take (q + 1)).any (· == z) = ((order.take q).any (· == z) || (x == z))) := Lib.hid (by
                rw [List.take_add_one, List.getElem?_eq_getElem hqlt, hx, List.any_append]
                simp)
              have hqc : (q : Int) < order.length := by omega
              cases hb : (order.take q).any (· == z) with
              | true =>
                have NX2 : Hid ((order.take (q + 1)).any (· == z) = true) := Lib.hid (by rw [NX.out, hb]; rfl)
                clear hb
                go_wp2_with fail
                go_roundg (gk - 1)
                case measure => omega
                case rel => exact ⟨q + 1, by omega, by go_num, by rw [NX2.out], rfl⟩
              | false =>
                have NX2 : Hid ((order.take (q + 1)).any (· == z) = (x == z)) := Lib.hid (by rw [NX.out, hb]; rfl)
                clear hb
                go_wp2_with fail
                go_roundg (gk - 1)
                case measure => omega
                case rel => exact ⟨q + 1, by omega, by go_num, by rw [NX2.out], rfl⟩
            · have hqe : (order.take q).any (· == z) = order.any (· == z) := by rw [List.take_of_length_le (by omega)]
              rw [hqe]
              have hany : order.any (· == z) = false := by
                rw [List.any_eq_false]
                intro y hy e
                exact HIN.out ((by simpa using e : y = z) ▸ hy)
              rw [hany]
              clear hany hqe
              have SS := Lib.hid (src_int w6 z)
              have HA : Hid ((w6.alloc (.cells #[.int .i64 z] 3)).ownsRow W.heap.size 3 1 (.slice A5 order.length c5) order.length (iv order)) := Lib.hid (own_same L6.out.2.1 fun k hk => heap_alloc_old w6 _ (L6.out.2.1.lt k hk).2)
              have HB8 : Hid ((order.length + 1) * 8 ≤ 140737488355328) := Lib.hid (by have := O8.out; omega)
              have HWS : Hid (W.heap.size ≤ (w6.alloc (.cells #[.int .i64 z] 3)).heap.size) := Lib.hid (by have := L6.out.1.2.1.size; simp; omega)
              go_wp2_with (at_builtin; refine wpList_append_any rfl (.tmp 61) (.tmp 63) 38 rfl W.heap.size 3 (.int .i64 0) 1 8 Try.underlying38 intInfo rfl (by decide) (by decide) (.slice A5 order.length c5) order.length _ rfl HA.out (some ⟨_, 0, none⟩) 1 1 [.int .i64 z] rfl SS.out rfl (by simp [Value.oneCell']) HB8.out HWS.out ?_)
              intro v' w7 ho7 hg7 _ hat7
              have NX : Hid (TnA W sb v' w7) := Lib.hid ⟨order ++ [z], F6, L6x.out.push ho7 hg7 (by simpa using hat7), by have := OL.out; simp; omega⟩
              obtain ⟨A9, c9, rfl, -⟩ := own_form ho7
              clear ho7 hg7 hat7
              go_wp2_with fail
              go_roundg (gk0 - 1)
              case measure => have := HGK.out; have := HJ.out; omega
              case rel => exact ⟨j + 1, by have := HGK.out; have := HJ.out; omega, by go_num, NX.out⟩
        · obtain ⟨e1, e2⟩ := tn_full hin (by omega)
          rw [e2] at l5
          rw [e1]
          have NX : Hid (TnA W sb (.slice A5 order.length c5) w5) := Lib.hid ⟨order, F5, l5, O8.out⟩
          clear l5 e1 e2 hin h8
          go_wp2_with fail
          go_roundg (gk - 1)
          case measure => omega
          case rel => exact ⟨j + 1, by omega, by go_num, NX.out⟩
    · obtain ⟨A5, c5, hv5, hc51, hc52, -⟩ := own_form L4.out.2.1
      subst hv5
      unfold maxLen at hc52
      clear hr4 ho8
      go_wp2_with fail
      refine (active_any L4.out.1.1).mono ?_
      rintro e w5 ⟨v5, rfl, ho5, hb5⟩
      obtain ⟨A6, c6, hv6, -⟩ := own_form ho5
      subst hv6
      have SI := Lib.hid (sameInts_any ho5 (L4.out.below hb5).2.1)
      rw [show decide ((tn order).act = order) = true from decide_eq_true rfl] at SI
      have L5 := Lib.hid (L4.out.below hb5)
      clear ho5 hb5
      go_wp2_with fail
      refine SI.out.mono ?_
      rintro e w6 ⟨rfl, hb6⟩
      have L6 := Lib.hid (L5.out.below hb6)
      clear hb6 SI
      by_cases h0 : order.length = 0
      · have h0b : ((order.length : Int) == 0) = true := by simpa using h0
        go_wp2_with fail
        go_ret
        exact ⟨rfl, L6.out.1.2.1⟩
      · have h0b : ((order.length : Int) == 0) = false := by simpa using h0
        have H0 : Hid (0 < order.length) := Lib.hid (by omega)
        have T6 : Hid (TnB W sb 0 (.slice A5 order.length c5) order w6) := Lib.hid ⟨_, _, L6.out, tn_start order⟩
        go_wp2_with fail
        clear h0b
        generalize wr = wz at *
        go_loopg [76] m.length (fun k i wr => ∃ j : Nat, j + k = m.length ∧ i = .int .i64 j ∧ TnB W sb j (.slice A5 order.length c5) order wr)
        case atStart => exact ⟨0, Nat.zero_add _, rfl, T6.out⟩
        case round =>
          obtain ⟨i, hi, rfl, s, F7, hr7, ht7⟩ := hrel
          have L7 := Lib.hid hr7
          have T7 := Lib.hid ht7
          clear hr7 ht7 T6
          by_cases hlt2 : i < m.length
          · obtain ⟨ad, rfl, hc⟩ := usrc_one HS2.out L7.out.1.2.1 hlt2
            obtain ⟨z, hz⟩ : ∃ z, m[i]'hlt2 = z := ⟨_, rfl⟩
            have HZ : Hid (0 ≤ z ∧ z < 18446744073709551616) := Lib.hid (by rw [← hz]; exact HL2.out _ (List.getElem_mem hlt2))
            rw [hz] at hc
            obtain ⟨dd, hd0, hd1, hv, hsp, hv2, hlv, hnx⟩ := T7.out.turn H0.out z HZ.out.1
            obtain ⟨x, hx⟩ : ∃ x, order[i % order.length]'(Nat.mod_lt _ H0.out) = x := ⟨_, rfl⟩
            rw [hx] at hv hv2
            have HX := Lib.hid hx
            have HD := Lib.hid (And.intro hd0 hd1)
            have HV := Lib.hid hv
            have HSP := Lib.hid hsp
            have HV2 := Lib.hid hv2
            have HLV := Lib.hid hlv
            have HNX := Lib.hid hnx
            clear hz hv hsp hv2 hlv hnx hx hd0 hd1
            have hic : (i : Int) < m.length := by omega
            go_wp2_with fail
            refine (front_any L7.out.1.1).mono ?_
            rintro e w8 ⟨rfl, t⟩
            obtain ⟨F8, l8⟩ := L7.out.turn t
            rw [HV.out]
            have L8 := Lib.hid l8
            obtain ⟨g, c', he, ca, -⟩ := own_one_cell l8.2.1 (j := i % order.length) (Nat.mod_lt _ H0.out)
            rw [HX.out] at ca
            injection he with he _ hc'
            subst he hc'
            have hix : i % order.length < order.length := Nat.mod_lt _ H0.out
            have hixi : (i : Int) % order.length < order.length := by omega
            have b1 : decide (dd < 100) = false := decide_eq_false (by have := HD.out; omega)
            clear t l8
            go_wp2_with fail
            refine (spend_any L8.out.1.1 z HZ.out.1).mono ?_
            rintro e w9 ⟨rfl, t⟩
            obtain ⟨F9, l9⟩ := L8.out.turn t
            rw [HSP.out]
            have L9 := Lib.hid l9
            clear t l9 ca hix hixi b1
            by_cases hzd : z ≤ dd
            · have V2 : Hid ((s.front.spend z).frontV = .tuple #[.int .i64 x, .int .u64 (dd - z), .bool true]) := Lib.hid (by rw [HV2.out, if_pos hzd])
              have SB : Hid (∀ w', Calls Try.prog 18 #[.int .u64 dd, .int .u64 z] w' fun e w'' => e = .returned (.int .u64 (dd - z)) ∧ w'' = w') := Lib.hid (fun w' => by
                have := sub_any dd z (by have := HD.out; omega) HZ.out w'
                rw [if_pos hzd] at this
                exact this)
              have hzb : decide (z ≤ dd) = true := decide_eq_true hzd
              rw [hzb]
              go_wp2_with fail
              refine (front_any L9.out.1.1).mono ?_
              rintro e w10 ⟨rfl, t⟩
              obtain ⟨F10, l10⟩ := L9.out.turn t
              rw [V2.out]
              have L10 := Lib.hid l10
              clear t l10
              go_wp2_with fail
              refine (SB.out _).mono ?_
              rintro e w11 ⟨rfl, rfl⟩
              go_wp2_with fail
              refine (next_any L10.out.1.1).mono ?_
              rintro e w12 ⟨rfl, t⟩
              obtain ⟨F12, l12⟩ := L10.out.turn t
              rw [HLV.out]
              have NX : Hid (TnB W sb (i + 1) (.slice (some ⟨g, 0, none⟩) order.length c5) order w12) := Lib.hid ⟨_, F12, l12, HNX.out⟩
              clear t l12
              go_wp2_with fail
              go_roundg (gk - 1)
              case measure => omega
              case rel => exact ⟨i + 1, by omega, by go_num, NX.out⟩
            · have V2 : Hid ((s.front.spend z).frontV = .tuple #[.int .i64 x, .int .u64 dd, .bool true]) := Lib.hid (by rw [HV2.out, if_neg hzd])
              have hzb : decide (z ≤ dd) = false := decide_eq_false hzd
              rw [hzb]
              go_wp2_with fail
              refine (front_any L9.out.1.1).mono ?_
              rintro e w10 ⟨rfl, t⟩
              obtain ⟨F10, l10⟩ := L9.out.turn t
              rw [V2.out]
              have L10 := Lib.hid l10
              clear t l10
              go_wp2_with fail
              refine (next_any L10.out.1.1).mono ?_
              rintro e w12 ⟨rfl, t⟩
              obtain ⟨F12, l12⟩ := L10.out.turn t
              rw [HLV.out]
              have NX : Hid (TnB W sb (i + 1) (.slice (some ⟨g, 0, none⟩) order.length c5) order w12) := Lib.hid ⟨_, F12, l12, HNX.out⟩
              clear t l12
              go_wp2_with fail
              go_roundg (gk - 1)
              case measure => omega
              case rel => exact ⟨i + 1, by omega, by go_num, NX.out⟩
          · go_wp2_with fail
            go_ret
            exact ⟨rfl, L7.out.1.2.1⟩
end Go.Proofs.Ytliepgmjpbjhfaa.Drr
