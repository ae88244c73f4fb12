/- The walk of DrrRests. Conditions: none beyond each lemma's own hypotheses. -/
import Derived.Test.YtliepgmjpbjhfaaFgDrrAlive
import Derived.ChangeSlices
set_option linter.unusedVariables false
set_option linter.unusedSimpArgs false
namespace Go.Proofs.Ytliepgmjpbjhfaa.Drr
open Go.RowKit Go.Proofs.Ytliepgmjpbjhfaa.Fg Go.Shelf Go.Maps Go.ChangeShapes Go.WideShapes Go.ChangeAt

def uv (l : List Int) : List Value := l.map (Value.int .u64)
theorem uv_length (l : List Int) : (uv l).length = l.length := by simp [uv]
set_option maxRecDepth 100000 in
theorem open_u64s {H : Type} {enc : TypeId × Value → H} {w : World} {held : Bool} {v : Value} {d : DataW H} {p : List MemPlace} {b0 : Nat} {r : Reach}
    (hv : Value.okWide Try.prog w r b0 22 v) (h : DataW.Trod enc Try.prog w 0 (fun _ => true) held 22 v d p) :
    ∃ (A : Option Addr) (c : Nat) (l : List Int), v = .slice A l.length c ∧ Src w A l.length c (uv l) ∧ ∀ n ∈ l, 0 ≤ n ∧ n < 18446744073709551616 := by
  obtain ⟨a0, len0, cap0, rfl⟩ := okWide_slice Try.underlying22 hv
  obtain ⟨fuel, hf⟩ := h
  have hf' : DataW.trod enc Try.prog w 0 (fun _ => true) held fuel 22 [.slice a0 len0 cap0] = some (d, p) := hf
  rcases open_ints Try.underlying22 Try.underlying24 (by kernel_rfl) hf' with ⟨hcs, _⟩ | ⟨a, len, cap, zs, hcs, _, hl, hm, hz, _, hcell, hwf⟩
  · injection hcs with hcs
    rw [hcs]
    exact ⟨none, 0, [], rfl, ⟨fun _ => ⟨rfl, rfl⟩, Nat.le_refl _, by simp [maxLen], fun _ h => by cases h⟩, fun n hn => by cases hn⟩
  · injection hcs with hcs
    rw [if_pos rfl] at hz
    have hll : (zs.take len).length = len := by rw [List.length_take]; omega
    refine ⟨some a, cap, zs.take len, by rw [hcs, hll], ⟨(fun h => by cases h), by rw [hll]; exact hl, hm, fun ad had j u hu => ?_⟩, fun n hn => ?_⟩
    · injection had with had
      subst had
      have hj : j < len := by
        have := (List.getElem?_eq_some_iff.1 hu).1
        rw [uv_length, hll] at this
        exact this
      rw [hcell j (by omega), ← hu]
      simp [uv, List.getElem?_take_of_lt hj, List.getD_eq_getElem?_getD, List.getElem?_eq_getElem (show j < zs.length by omega)]
    · have := hwf n (List.mem_of_mem_take hn)
      have h2 : 0 ≤ n ∧ n ≤ 18446744073709551615 := by simpa [Lit.wf, IntKind.min, IntKind.max, IntKind.signed, IntKind.bits] using this
      omega
theorem usrc_one {W wr : World} {A : Option Addr} {c : Nat} {l : List Int} (h : Src W A l.length c (uv l)) (hb : Below W.heap.size W wr) {j : Nat} (hj : j < l.length) :
    ∃ ad, A = some ad ∧ wr.cell? (ad.add j) = some (.int .u64 (l[j]'hj)) := by
  cases A with
  | none => have := (h.nil rfl).1; omega
  | some ad =>
    refine ⟨ad, rfl, ?_⟩
    have h0 := h.cells ad rfl j (.int .u64 (l[j]'hj)) (by simp [uv, hj])
    have hbk : ad.block < W.heap.size := h.lt rfl (by
      intro e
      have h1 : (uv l).length = 0 := by rw [e]; rfl
      rw [uv_length] at h1
      omega)
    have e2 : (ad.add j).block = ad.block := by unfold Addr.add; split <;> rfl
    exact (hb.cell (p := ad.add j) (by rw [e2]; exact hbk)).trans h0

def one (q df : Int) (vis : Bool) (act : List Int) : Sc := ⟨[⟨7, q, df, vis⟩], act⟩
theorem one_front (q df : Int) : (one q df false [7]).front = one q (min (df + q) 18446744073709551615) true [7] ∧ (one q df false [7]).frontV = .tuple #[.int .i64 7, .int .u64 (min (df + q) 18446744073709551615), .bool true] := ⟨rfl, rfl⟩
theorem one_spend (q df n : Int) : (one q df true [7]).spendB n = decide (n ≤ df) ∧ (one q df true [7]).spend n = one q (if n ≤ df then df - n else df) true [7] := by
  refine ⟨rfl, ?_⟩
  show (if n ≤ df then (one q (df - n) true [7]) else one q df true [7]) = _
  split <;> rfl
theorem one_leave (q df : Int) (k s : Bool) : (one q df true [7]).leaveB = true ∧ (one q df true [7]).leave k s = one q (if k then df else 0) false (if s then [7] else []) := by
  refine ⟨rfl, ?_⟩
  cases k <;> cases s <;> rfl
theorem one_wake (q df : Int) : (one q df false []).wakeE 7 = 0 ∧ (one q df false []).wake 7 = one q df false [7] := ⟨rfl, rfl⟩
theorem one_set {q : Int} (h : 1 ≤ q) (h2 : q ≤ 281474976710656) : Sc.new.setE 7 q = 0 ∧ Sc.new.set 7 q = one q 0 false [] := by
  have e : Sc.new.setE 7 q = 0 := by
    unfold Sc.setE
    rw [if_neg]
    rintro (h | h | h)
    · omega
    · omega
    · exact absurd h.2 (by decide)
  refine ⟨e, ?_⟩
  unfold Sc.set
  rw [e]
  rfl

def RsRel (W : World) (sb : Nat) (q : Int) (w : World) : Prop := ∃ df F, DS W w sb (one q df false [7]) F ∧ 0 ≤ df
set_option maxRecDepth 100000 in
set_option maxHeartbeats 4000000 in
theorem rests_law (q : Int) (hq : (Lit.int .u64 q).wf = true) (A : Option Addr) (c : Nat) (l : List Int) (rests : Bool) (W : World) (hs : Src W A l.length c (uv l)) (hl : ∀ n ∈ l, 0 ≤ n ∧ n < 18446744073709551616) :
    Calls Try.prog 5 #[.int .u64 q, .slice A l.length c, .bool rests] W fun e w' => e = .returned (.bool true) ∧ Below W.heap.size W w' := by
  have hw : 0 ≤ q ∧ q ≤ 18446744073709551615 := by simpa [Lit.wf, IntKind.min, IntKind.max, IntKind.signed, IntKind.bits] using hq
  have HS := Lib.hid hs
  have HL := Lib.hid hl
  have hm := hs.most
  have hm2 := hs.cap
  unfold maxLen at hm
  clear hs hq hl
  go_enter Try.func5, Try.ntmps5
  go_wp2_with fail
  refine (alive_any W).mono ?_
  rintro e w0 ⟨rfl, hb0⟩
  have HB0 := Lib.hid hb0
  clear hb0
  by_cases h0 : q < 1
  · go_wp2_with fail
    go_ret
    exact ⟨rfl, HB0.out⟩
  by_cases h1 : 281474976710656 < q
  · go_wp2_with fail
    go_ret
    exact ⟨rfl, HB0.out⟩
  by_cases h2 : (50 : Int) < l.length
  · go_wp2_with fail
    go_ret
    exact ⟨rfl, HB0.out⟩
  have HQ : Hid (1 ≤ q ∧ q ≤ 281474976710656) := Lib.hid (by omega)
  have c0 : decide (q < 1) = false := decide_eq_false h0
  have c1 : decide ((281474976710656 : Int) < q) = false := decide_eq_false h1
  have c2 : decide ((50 : Int) < l.length) = false := decide_eq_false h2
  go_wp2_with fail
  clear c0 c1 c2
  refine (new_any w0).mono ?_
  rintro e w1 ⟨sb, F1, rfl, hn1, b1, f1⟩
  have L1 : Hid (DS W w1 sb Sc.new F1) := Lib.hid (new_ds HB0.out hn1 b1 f1)
  clear hn1 b1 f1
  go_wp2_with fail
  refine (set_any L1.out.1 7 q (by decide) (by have := HQ.out; omega)).mono ?_
  rintro e w2 ⟨rfl, t⟩
  obtain ⟨F2, l2⟩ := L1.out.turn t
  obtain ⟨e1, e2⟩ := one_set HQ.out.1 HQ.out.2
  rw [e2] at l2
  rw [e1]
  have L2 := Lib.hid l2
  clear t l2 e1 e2
  go_wp2_with fail
  refine (wake_any L2.out.1 7 (by decide)).mono ?_
  rintro e w3 ⟨rfl, t⟩
  obtain ⟨F3, l3⟩ := L2.out.turn t
  rw [(one_wake q 0).2] at l3
  rw [(one_wake q 0).1]
  have L3 : Hid (RsRel W sb q w3) := Lib.hid ⟨0, F3, l3, Int.le_refl _⟩
  clear t l3
  go_wp2_with fail
  go_loopg [41] l.length (fun k v wr => ∃ j : Nat, j + k = l.length ∧ v = .int .i64 j ∧ RsRel W sb q wr)
  case atStart => exact ⟨0, Nat.zero_add _, rfl, L3.out⟩
  case round =>
    obtain ⟨j, hj, rfl, df, F4, hl4, hd4⟩ := hrel
    have L4 := Lib.hid hl4
    clear hl4 L3
    by_cases hlt : j < l.length
    · obtain ⟨ad, rfl, hc⟩ := usrc_one HS.out L4.out.2.1 hlt
      obtain ⟨z, hz⟩ : ∃ z, l[j]'hlt = z := ⟨_, rfl⟩
      have HZ : Hid (0 ≤ z ∧ z < 18446744073709551616) := Lib.hid (by rw [← hz]; exact HL.out _ (List.getElem_mem hlt))
      rw [hz] at hc
      clear hz
      have OF := one_front q df
      obtain ⟨d2, hd2⟩ : ∃ d2, min (df + q) 18446744073709551615 = d2 := ⟨_, rfl⟩
      have hdq : q ≤ d2 := by have := HQ.out; omega
      rw [hd2] at OF
      have OFH := Lib.hid OF
      have HDQ := Lib.hid hdq
      clear OF hd2 hdq hd4
      go_wp2_with fail
      refine (front_any L4.out.1).mono ?_
      rintro e w5 ⟨rfl, t⟩
      obtain ⟨F5, l5⟩ := L4.out.turn t
      rw [OFH.out.1] at l5
      rw [OFH.out.2]
      have L5 := Lib.hid l5
      have b1 : decide (d2 < q) = false := decide_eq_false (by have := HDQ.out; omega)
      clear t l5
      go_wp2_with fail
      refine (spend_any L5.out.1 z HZ.out.1).mono ?_
      rintro e w6 ⟨rfl, t⟩
      obtain ⟨F6, l6⟩ := L5.out.turn t
      rw [(one_spend q d2 z).2] at l6
      rw [(one_spend q d2 z).1]
      have HD3 : Hid (0 ≤ (if z ≤ d2 then d2 - z else d2)) := Lib.hid (by have := HDQ.out; have := HQ.out; split <;> omega)
      have L6 := Lib.hid l6
      clear t l6
      generalize (if z ≤ d2 then d2 - z else d2) = d3 at *
      cases hzd : decide (z ≤ d2) with
      | true =>
        go_wp2_with fail
        refine (next_any L6.out.1).mono ?_
        rintro e w7 ⟨rfl, t⟩
        obtain ⟨F7, l7⟩ := L6.out.turn t
        rw [(one_leave q d3 true true).2] at l7
        rw [(one_leave q d3 true true).1]
        have R7 : Hid (RsRel W sb q w7) := Lib.hid ⟨d3, F7, l7, HD3.out⟩
        clear t l7
        go_wp2_with fail
        go_roundg (gk - 1)
        case measure => omega
        case rel => exact ⟨j + 1, by omega, by go_num, R7.out⟩
      | false =>
        go_wp2_with fail
        refine (next_any L6.out.1).mono ?_
        rintro e w7 ⟨rfl, t⟩
        obtain ⟨F7, l7⟩ := L6.out.turn t
        rw [(one_leave q d3 true true).2] at l7
        rw [(one_leave q d3 true true).1]
        have R7 : Hid (RsRel W sb q w7) := Lib.hid ⟨d3, F7, l7, HD3.out⟩
        clear t l7
        go_wp2_with fail
        go_roundg (gk - 1)
        case measure => omega
        case rel => exact ⟨j + 1, by omega, by go_num, R7.out⟩
    · have OF := one_front q df
      generalize min (df + q) 18446744073709551615 = d2 at OF
      have OFH := Lib.hid OF
      have HM0 : Hid (min (0 + q) 18446744073709551615 = q) := Lib.hid (by have := HQ.out; omega)
      clear OF hd4
      go_wp2_with fail
      refine (front_any L4.out.1).mono ?_
      rintro e w5 ⟨rfl, t⟩
      obtain ⟨F5, l5⟩ := L4.out.turn t
      rw [OFH.out.1] at l5
      rw [OFH.out.2]
      have L5 := Lib.hid l5
      clear t l5
      cases rests with
      | true =>
        go_wp2_with fail
        refine (rest_any L5.out.1).mono ?_
        rintro e w6 ⟨rfl, t⟩
        obtain ⟨F6, l6⟩ := L5.out.turn t
        rw [(one_leave q d2 false false).2] at l6
        rw [(one_leave q d2 false false).1]
        have L6 : Hid (DS W w6 sb (one q 0 false []) F6) := Lib.hid l6
        clear t l6
        go_wp2_with fail
        refine (active_any L6.out.1).mono ?_
        rintro e w7 ⟨v7, rfl, ho7, hb7⟩
        obtain ⟨A7, c7, hv7, -⟩ := own_form ho7
        have hv7 : v7 = .slice A7 0 c7 := hv7
        subst hv7
        have L7 := Lib.hid (L6.out.below hb7)
        clear ho7 hb7
        go_wp2_with fail
        refine (wake_any L7.out.1 7 (by decide)).mono ?_
        rintro e w8 ⟨rfl, t⟩
        obtain ⟨F8, l8⟩ := L7.out.turn t
        rw [(one_wake q 0).2] at l8
        rw [(one_wake q 0).1]
        have L8 := Lib.hid l8
        clear t l8
        go_wp2_with fail
        refine (front_any L8.out.1).mono ?_
        rintro e w9 ⟨rfl, t⟩
        obtain ⟨F9, l9⟩ := L8.out.turn t
        rw [(one_front q 0).2, HM0.out]
        have B9 := Lib.hid l9.2.1
        clear t l9
        go_wp2_with fail
        go_ret
        exact ⟨rfl, B9.out⟩
      | false =>
        go_wp2_with fail
        refine (block_any L5.out.1).mono ?_
        rintro e w6 ⟨rfl, t⟩
        obtain ⟨F6, l6⟩ := L5.out.turn t
        rw [(one_leave q d2 false true).2] at l6
        rw [(one_leave q d2 false true).1]
        have L8 : Hid (DS W w6 sb (one q 0 false [7]) F6) := Lib.hid l6
        clear t l6
        go_wp2_with fail
        refine (front_any L8.out.1).mono ?_
        rintro e w9 ⟨rfl, t⟩
        obtain ⟨F9, l9⟩ := L8.out.turn t
        rw [(one_front q 0).2, HM0.out]
        have B9 := Lib.hid l9.2.1
        clear t l9
        go_wp2_with fail
        go_ret
        exact ⟨rfl, B9.out⟩
end Go.Proofs.Ytliepgmjpbjhfaa.Drr
