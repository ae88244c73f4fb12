/- The walk of the law DiskBreaks of floodgate's disk layer. There are no conditions. -/
import Derived.Test.YtndcgofjhlndgaaFgDiskAlive
import Derived.Deep.Grids
set_option linter.unusedVariables false
set_option linter.unusedSimpArgs false
namespace Go.Proofs.Ytndcgofjhlndgaa.Disk
open Go.RowKit Go.Proofs.Ytndcgofjhlndgaa.Fg Go.ChangeShapes Go.WideShapes Go.ChangeAt

/-- A slice of bools that came in. -/
theorem open_bools_arg {H : Type} {enc : TypeId × Value → H} {w : World} {held : Bool} {v : Value} {d : DataW H} {p : List MemPlace} {b0 : Nat} {r : Reach}
    (hv : Value.okWide Try.prog w r b0 33 v) (h : DataW.Trod enc Try.prog w 0 (fun _ => true) held 33 v d p) :
    ∃ (A : Option Addr) (c : Nat) (l : List Bool), v = .slice A l.length c ∧ Fg.Src w A l.length c (blv l) := by
  obtain ⟨a0, len0, cap0, rfl⟩ := okWide_slice Try.underlying33 hv
  obtain ⟨fuel, hf⟩ := h
  have hf' : DataW.trod enc Try.prog w 0 (fun _ => true) held fuel 33 [.slice a0 len0 cap0] = some (d, p) := hf
  rcases Go.Deep.open_bools Try.underlying33 Try.underlying4 (by kernel_rfl) hf' with ⟨hcs, _⟩ | ⟨a, len, cap, B, hcs, _, hl, hm, _, hcell⟩
  · injection hcs with hcs
    rw [hcs]
    exact ⟨none, 0, [], rfl, ⟨fun _ => ⟨rfl, rfl⟩, Nat.le_refl _, by simp [maxLen], fun _ h => by cases h⟩⟩
  · injection hcs with hcs
    have hll : ((List.range len).map B).length = len := by simp
    refine ⟨some a, cap, (List.range len).map B, by rw [hcs, hll], ⟨(fun h => by cases h), by rw [hll]; exact hl, hm, fun ad had j u hu => ?_⟩⟩
    injection had with had
    subst had
    have hj : j < len := by
      have := (List.getElem?_eq_some_iff.1 hu).1
      simpa [blv] using this
    rw [hcell j (by omega), ← hu]
    simp [blv, hj]

/-- How a disk stands that was told to break, so many acts later. -/
structure Brk (n i : Nat) (d : Dk) : Prop where
  st : d.st.length = 4
  pd : d.pd.length ≤ i
  left : d.left = if i ≤ n then (n : Int) - i else 0
  down : d.down = decide (n < i)
theorem Brk.act {n i : Nat} {d : Dk} (h : Brk n i d) : d.actE = (if i < n then 0 else 72) ∧ Brk n (i + 1) d.act := by
  have h1 := h.left
  have h2 := h.down
  unfold Dk.actE
  have a1 := Dk.act_st d
  have a2 := Dk.act_pd d
  by_cases hn : n < i
  · rw [if_neg (by omega)] at h1
    rw [decide_eq_true hn] at h2
    rw [if_pos h2, if_neg (by omega)]
    refine ⟨rfl, by rw [a1]; exact h.st, by rw [a2]; have := h.pd; omega, ?_, ?_⟩
    · rw [Dk.act, if_pos h2, h1, if_neg (by omega)]
    · rw [Dk.act, if_pos h2, h2, decide_eq_true (by omega)]
  · rw [if_pos (by omega)] at h1
    rw [decide_eq_false hn] at h2
    have h2' : ¬ d.down = true := by rw [h2]; decide
    rw [if_neg h2', if_neg (by omega)]
    by_cases hi : i < n
    · rw [if_pos (by omega), if_pos hi]
      refine ⟨rfl, by rw [a1]; exact h.st, by rw [a2]; have := h.pd; omega, ?_, ?_⟩
      · rw [Dk.act, if_neg h2', if_neg (by omega), if_pos (by omega), if_pos (by omega)]
        show d.left - 1 = _
        omega
      · rw [Dk.act, if_neg h2', if_neg (by omega), if_pos (by omega)]
        show d.down = _
        rw [h2, decide_eq_false (by omega)]
    · rw [if_neg (by omega), if_neg hi]
      refine ⟨rfl, by rw [a1]; exact h.st, by rw [a2]; have := h.pd; omega, ?_, ?_⟩
      · rw [Dk.act, if_neg h2', if_neg (by omega), if_neg (by omega), if_neg (by omega)]
        show d.left = _
        omega
      · rw [Dk.act, if_neg h2', if_neg (by omega), if_neg (by omega)]
        show true = _
        rw [decide_eq_true (by omega)]
theorem Brk.sync {n i : Nat} {d : Dk} (h : Brk n i d) : Brk n (i + 1) d.sync := by
  have h1 := h.act.2
  unfold Dk.sync
  split
  · exact ⟨by show (Dk.settle _ 0 d.st d.pd).length = 4; rw [Dk.length_settle]; exact h.st, by show ([] : List (Nat × List Int)).length ≤ _; simp, h1.left, h1.down⟩
  · exact h1
theorem Brk.put {n i : Nat} {d : Dk} (h : Brk n i d) (j : Int) (h0 : 0 ≤ j) (h4 : j < 4) (s : List Int) : Brk n (i + 1) (d.put j s) ∧ d.putE j = d.actE := by
  have h1 := h.act.2
  have ht : d.there j = true := by simp [Dk.there, h.st]; omega
  unfold Dk.put Dk.putE
  rw [if_pos ht, if_pos ht]
  refine ⟨?_, rfl⟩
  split
  · exact ⟨h1.st, by show (d.pd ++ [_]).length ≤ _; have := h.pd; simp; omega, h1.left, h1.down⟩
  · exact h1

def BrRel (W : World) (g n i : Nat) (w : World) : Prop := ∃ d F, LD W w g d F ∧ Brk n i d
set_option maxRecDepth 100000 in
set_option maxHeartbeats 4000000 in
theorem breaks_any (n : Int) (hn : (Lit.int .i64 n).wf = true) (A : Option Addr) (c : Nat) (l : List Bool) (W : World) (hs : Fg.Src W A l.length c (blv l)) :
    Calls Try.prog 4 #[.int .i64 n, .slice A l.length c] W fun e w' => e = .returned (.bool true) ∧ Below W.heap.size W w' := by
  have hw : -9223372036854775808 ≤ n ∧ n ≤ 9223372036854775807 := by
    have hmin : IntKind.i64.min = -9223372036854775808 := rfl
    have hmax : IntKind.i64.max = 9223372036854775807 := rfl
    simpa only [Lit.wf, Bool.and_eq_true, decide_eq_true_eq, hmin, hmax] using hn
  have HS := Lib.hid hs
  have hm := hs.most
  have hm2 := hs.cap
  unfold maxLen at hm
  clear hn hs
  go_enter Try.func4, Try.ntmps4
  go_wp2_with fail
  refine (alive_any W).mono ?_
  rintro e w0 ⟨rfl, hb0⟩
  have HB0 := Lib.hid hb0
  clear hb0
  by_cases h0 : n < 0
  · go_wp2_with fail
    go_ret
    exact ⟨rfl, HB0.out⟩
  · by_cases h1 : (100 : Int) < l.length
    · go_wp2_with fail
      go_ret
      exact ⟨rfl, HB0.out⟩
    · obtain ⟨m, rfl⟩ := Int.eq_ofNat_of_zero_le (show 0 ≤ n by omega)
      go_wp2_with fail
      refine (new_any 4 4 _ (by decide)).mono ?_
      rintro e w1 ⟨g, F, rfl, hd, hb, hF⟩
      have L1 : LD W w1 g (Dk.new 4) F := ⟨hd, HB0.out.trans (hb.mono HB0.out.size), fun k hk => Nat.le_trans HB0.out.size (hF k hk)⟩
      have LL1 := Lib.hid L1
      clear hd hb hF L1
      go_wp2_with fail
      refine (brk_any LL1.out.disk m hw.2).mono ?_
      rintro e w2 ⟨rfl, ht⟩
      obtain ⟨F2, l2, -, -⟩ := LL1.out.turn ht
      have ST : Hid (BrRel W g m 0 w2) := Lib.hid ⟨_, _, l2, ⟨by simp [Dk.brk, Dk.new], by simp [Dk.brk, Dk.new], by show (if (m : Int) < -1 then -1 else (m : Int)) = _; rw [if_neg (by omega), if_pos (by omega)]; omega, by simp [Dk.brk, Dk.new]⟩⟩
      clear ht l2
      go_wp2_with fail
      go_loopg [24] l.length (fun k v wr => ∃ j : Nat, j + k = l.length ∧ v = .int .i64 j ∧ BrRel W g m j wr)
      case atStart => exact ⟨0, Nat.zero_add _, rfl, ST.out⟩
      case round =>
        obtain ⟨j, hj, rfl, d, F3, l3, hb3⟩ := hrel
        have LL3 := Lib.hid l3
        have BK := Lib.hid hb3
        clear l3 hb3
        by_cases hlt : j < l.length
        · cases A with
          | none => have := (HS.out.nil rfl).1; omega
          | some ad =>
            have hc : wr.cell? (ad.add j) = some (.bool l[j]) := by
              have h0 := HS.out.cells ad rfl j (.bool l[j]) (by simp [blv, hlt])
              have hbk : ad.block < W.heap.size := HS.out.lt rfl (by
                intro e
                have h1 : (blv l).length = 0 := by rw [e]; rfl
                rw [blv, List.length_map] at h1
                omega)
              have e2 : (ad.add j).block = ad.block := by unfold Addr.add; split <;> rfl
              exact (LL3.out.below.cell (p := ad.add j) (by rw [e2]; exact hbk)).trans h0
            obtain ⟨hE, -⟩ := BK.out.act
            have hj100 : j < 100 := by omega
            have h04 : ((j % 4 : Nat) : Int) < 4 := by omega
            obtain ⟨hb1, hp1⟩ := BK.out.put ((j % 4 : Nat) : Int) (by omega) h04 (sec1 (j : Int))
            have HB1 := Lib.hid hb1
            have PW := Lib.hid (write_any LL3.out.disk ((j % 4 : Nat) : Int) (sec1 (j : Int)) (sec1_len _) (by have := BK.out.pd; omega))
            rw [hp1] at PW
            have HS1 := Lib.hid BK.out.sync
            have SY := Lib.hid (sync_any LL3.out.disk)
            clear hb1 hp1
            by_cases hjm : j < m
            · rw [if_pos hjm] at hE
              rw [hE] at PW SY
              have HJM : Hid (j < m) := Lib.hid hjm
              have hb3 : (j : Int) < (m : Int) := by omega
              clear hE hjm
              cases hlj : l[j] with
              | true =>
                rw [hlj] at hc
                clear hlj
                go_wp2_with fail
                refine SY.out.mono ?_
                rintro e w4 ⟨rfl, ht⟩
                obtain ⟨F4, l4, -, -⟩ := LL3.out.turn ht
                have LL4 := Lib.hid l4
                clear ht l4
                have DN : Hid (d.sync.down = false) := Lib.hid (by rw [HS1.out.down]; simp; have := HJM.out; omega)
                go_wp2_with fail
                refine (down_any LL4.out.disk).mono ?_
                rintro e w5 ⟨rfl, rfl⟩
                rw [DN.out]
                go_wp2_with fail
                go_roundg (gk - 1)
                case measure => omega
                case rel => exact ⟨j + 1, by omega, by go_num, _, _, LL4.out, HS1.out⟩
              | false =>
                rw [hlj] at hc
                clear hlj
                go_wp2_with (refine wpList_build_list rfl 25 #[(0, .tmp 36)] rfl [(0, .int .u8 j)] rfl (bv (sec1 j)).toArray (secBuilt1 j) ?_)
                refine PW.out.mono ?_
                rintro e w4 ⟨rfl, ht⟩
                obtain ⟨F4, l4, -, -⟩ := LL3.out.turn ht
                have LL4 := Lib.hid l4
                clear ht l4
                have DN : Hid ((d.put ((j % 4 : Nat) : Int) (sec1 j)).down = false) := Lib.hid (by rw [HB1.out.down]; simp; have := HJM.out; omega)
                go_wp2_with fail
                refine (down_any LL4.out.disk).mono ?_
                rintro e w5 ⟨rfl, rfl⟩
                rw [DN.out]
                go_wp2_with fail
                go_roundg (gk - 1)
                case measure => omega
                case rel => exact ⟨j + 1, by omega, by go_num, _, _, LL4.out, HB1.out⟩
            · rw [if_neg hjm] at hE
              rw [hE] at PW SY
              have HJM : Hid (¬ j < m) := Lib.hid hjm
              have hb3 : ¬ (j : Int) < (m : Int) := by omega
              clear hE hjm
              cases hlj : l[j] with
              | true =>
                rw [hlj] at hc
                clear hlj
                go_wp2_with fail
                refine SY.out.mono ?_
                rintro e w4 ⟨rfl, ht⟩
                obtain ⟨F4, l4, -, -⟩ := LL3.out.turn ht
                have LL4 := Lib.hid l4
                clear ht l4
                have DN : Hid (d.sync.down = true) := Lib.hid (by rw [HS1.out.down]; simp; have := HJM.out; omega)
                go_wp2_with fail
                refine (down_any LL4.out.disk).mono ?_
                rintro e w5 ⟨rfl, rfl⟩
                rw [DN.out]
                go_wp2_with fail
                go_roundg (gk - 1)
                case measure => omega
                case rel => exact ⟨j + 1, by omega, by go_num, _, _, LL4.out, HS1.out⟩
              | false =>
                rw [hlj] at hc
                clear hlj
                go_wp2_with (refine wpList_build_list rfl 25 #[(0, .tmp 36)] rfl [(0, .int .u8 j)] rfl (bv (sec1 j)).toArray (secBuilt1 j) ?_)
                refine PW.out.mono ?_
                rintro e w4 ⟨rfl, ht⟩
                obtain ⟨F4, l4, -, -⟩ := LL3.out.turn ht
                have LL4 := Lib.hid l4
                clear ht l4
                have DN : Hid ((d.put ((j % 4 : Nat) : Int) (sec1 j)).down = true) := Lib.hid (by rw [HB1.out.down]; simp; have := HJM.out; omega)
                go_wp2_with fail
                refine (down_any LL4.out.disk).mono ?_
                rintro e w5 ⟨rfl, rfl⟩
                rw [DN.out]
                go_wp2_with fail
                go_roundg (gk - 1)
                case measure => omega
                case rel => exact ⟨j + 1, by omega, by go_num, _, _, LL4.out, HB1.out⟩
        · have e : j = l.length := by omega
          subst e
          have hpd := BK.out.pd
          have CR := Lib.hid (crash_any LL3.out.disk [] none 0 ⟨fun _ => ⟨rfl, rfl⟩, Nat.le_refl _, by simp [maxLen], fun _ h => by cases h⟩ (fun _ h => by cases h))
          obtain ⟨d1, hd1⟩ : ∃ d1, d.crash [] = d1 := ⟨_, rfl⟩
          obtain ⟨d2, hd2⟩ : ∃ d2, d1.sync = d2 := ⟨_, rfl⟩
          have E1 : Hid (d1.actE = 0) := Lib.hid (by rw [← hd1]; rfl)
          have E2 : Hid (d2.putE 0 = 0 ∧ d2.pd.length < 1000000) := Lib.hid (by
            have hst : d2.st.length = 4 := by
              rw [← hd2, ← hd1]
              show (Dk.settle (fun _ => true) 0 (Dk.settle (fun k => ([] : List Bool).getD k false) 0 d.st d.pd) []).length = 4
              rw [Dk.length_settle, Dk.length_settle]
              exact BK.out.st
            have ht : d2.there 0 = true := by simp [Dk.there, hst]
            rw [Dk.putE, if_pos ht, ← hd2, ← hd1]
            exact ⟨rfl, by show ([] : List (Nat × List Int)).length < _; simp⟩)
          have H1 := Lib.hid hd1
          have H2 := Lib.hid hd2
          clear hd1 hd2
          go_wp2_with fail
          refine CR.out.mono ?_
          rintro e w4 ⟨rfl, ht⟩
          rw [H1.out] at ht
          obtain ⟨F4, l4, -, -⟩ := LL3.out.turn ht
          have LL4 := Lib.hid l4
          clear ht l4
          go_wp2_with fail
          refine (sync_any LL4.out.disk).mono ?_
          rintro e w5 ⟨rfl, ht⟩
          rw [H2.out] at ht
          rw [E1.out]
          obtain ⟨F5, l5, -, -⟩ := LL4.out.turn ht
          have LL5 := Lib.hid l5
          clear ht l5
          go_wp2_with (refine wpList_build_list_g (by simp [Region.wanted, yielded, Act.put]) 25 #[] rfl [] rfl (bv noSec).toArray secBuilt0 ?_)
          refine (write_any LL5.out.disk 0 noSec Dk.noSec_len E2.out.2).mono ?_
          rintro e w6 ⟨rfl, ht⟩
          rw [E2.out.1]
          obtain ⟨F6, l6, -, -⟩ := LL5.out.turn ht
          have LL6 := Lib.hid l6
          clear ht l6
          go_wp2_with fail
          go_ret
          exact ⟨rfl, LL6.out.below⟩
end Go.Proofs.Ytndcgofjhlndgaa.Disk
