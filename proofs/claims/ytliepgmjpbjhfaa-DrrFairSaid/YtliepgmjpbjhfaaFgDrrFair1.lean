/- The walk of DrrFair. Conditions: none beyond each lemma's own hypotheses. -/
import Derived.Test.YtliepgmjpbjhfaaFgDrrShares
import Derived.Test.YtliepgmjpbjhfaaFgDrrFairMem
set_option linter.unusedVariables false
set_option linter.unusedSimpArgs false
namespace Go.Proofs.Ytliepgmjpbjhfaa.Drr
open Go.RowKit Go.Proofs.Ytliepgmjpbjhfaa.Fg Go.Shelf Go.Maps

set_option maxRecDepth 100000 in
set_option maxHeartbeats 8000000 in
theorem fair_law (A : Option Addr) (c : Nat) (qs : List Int) (B : Option Addr) (d : Nat) (m : List Int) (W : World) (hs : Src W A qs.length c (uv qs)) (hl : ∀ n ∈ qs, 0 ≤ n ∧ n < 18446744073709551616)
    (hs2 : Src W B m.length d (uv m)) (hl2 : ∀ n ∈ m, 0 ≤ n ∧ n < 18446744073709551616) :
    Calls Try.prog 3 #[.slice A qs.length c, .slice B m.length d] W fun e w' => e = .returned (.bool true) ∧ Below W.heap.size W w' := by
  have HS := Lib.hid hs
  have HL := Lib.hid hl
  have HS2 := Lib.hid hs2
  have HL2 := Lib.hid hl2
  have hm := hs.most
  have hm2 := hs.cap
  have hm3 := hs2.most
  have hm4 := hs2.cap
  unfold maxLen at hm hm3
  clear hs hl hs2 hl2
  go_enter Try.func3, Try.ntmps3
  go_wp2_with fail
  refine (alive_any W).mono ?_
  rintro e w0 ⟨rfl, hb0⟩
  have HB0 := Lib.hid hb0
  clear hb0
  by_cases h1 : (qs.length : Int) < 2
  · go_wp2_with fail
    go_ret
    exact ⟨rfl, HB0.out⟩
  by_cases h2 : (8 : Int) < qs.length
  · go_wp2_with fail
    go_ret
    exact ⟨rfl, HB0.out⟩
  by_cases h3 : (m.length : Int) < 1
  · go_wp2_with fail
    go_ret
    exact ⟨rfl, HB0.out⟩
  by_cases h4 : (120 : Int) < m.length
  · go_wp2_with fail
    go_ret
    exact ⟨rfl, HB0.out⟩
  have c1 : decide ((qs.length : Int) < 2) = false := decide_eq_false h1
  have c2 : decide ((8 : Int) < qs.length) = false := decide_eq_false h2
  have c3 : decide ((m.length : Int) < 1) = false := decide_eq_false h3
  have c4 : decide ((120 : Int) < m.length) = false := decide_eq_false h4
  have QN : Hid (2 ≤ qs.length ∧ qs.length ≤ 8) := Lib.hid (by omega)
  have MN : Hid (1 ≤ m.length ∧ m.length ≤ 120) := Lib.hid (by omega)
  go_wp2_with fail
  clear c1 c2 c3 c4
  go_loopg [44, 5] m.length (fun k i x wr => ∃ (j : Nat) (M : Int), j + k = m.length ∧ i = .int .i64 j ∧ x = .int .u64 M ∧ 0 ≤ M ∧ (∀ t, t < j → m.getD t 0 ≤ M) ∧ Below W.heap.size W wr)
  case atStart => exact ⟨0, 0, Nat.zero_add _, rfl, rfl, Int.le_refl _, fun t ht => by omega, HB0.out⟩
  case round =>
    obtain ⟨j, M, hj, rfl, rfl, hM0, hM, hb⟩ := hrel
    have HB := Lib.hid hb
    have HM := Lib.hid hM
    have HM0 := Lib.hid hM0
    clear hb hM hM0
    by_cases hlt : j < m.length
    · obtain ⟨ad, rfl, hc⟩ := usrc_one HS2.out HB.out hlt
      obtain ⟨z, hz⟩ : ∃ z, m[j]'hlt = z := ⟨_, rfl⟩
      have HZ : Hid (m.getD j 0 = z) := Lib.hid (by rw [← hz, List.getD_eq_getElem?_getD, List.getElem?_eq_getElem hlt]; rfl)
      rw [hz] at hc
      have hjc : (j : Int) < m.length := by omega
      clear hz
      go_wp2_with fail
      go_roundg (gk - 1)
      case measure => omega
      case rel => exact ⟨j + 1, max M z, by omega, by go_num, rfl, by have := HM0.out; omega, fun t ht => by
        rcases Nat.lt_or_ge t j with h | h
        · have := HM.out t h; omega
        · obtain rfl : t = j := by omega
          rw [HZ.out]; omega, HB.out⟩
    · obtain rfl : gk = 0 := by omega
      go_wp2_with fail
      refine (new_any wr).mono ?_
      rintro e w1 ⟨sb, F1, rfl, hn1, b1, f1⟩
      have L1 : Hid (DS W w1 sb (fq qs 0) F1) := Lib.hid (new_ds HB.out hn1 b1 f1)
      clear hn1 b1 f1
      go_wp2_with fail
      go_loopg [55] qs.length (fun k i wr => ∃ j : Nat, j + k = qs.length ∧ i = .int .i64 j ∧ (∃ F, DS W wr sb (fq qs j) F) ∧ ∀ t, t < j → 0 < qs.getD t 0 ∧ qs.getD t 0 ≤ 16777216 ∧ M ≤ qs.getD t 0)
      case atStart => exact ⟨0, Nat.zero_add _, rfl, ⟨F1, L1.out⟩, fun t ht => by omega⟩
      case round =>
        obtain ⟨k, hk, rfl, ⟨F2, hl2⟩, hq2⟩ := hrel
        have L2 := Lib.hid hl2
        have Q2 := Lib.hid hq2
        clear hl2 hq2 L1
        by_cases hlt2 : k < qs.length
        · obtain ⟨ad, rfl, hc⟩ := usrc_one HS.out L2.out.2.1 hlt2
          obtain ⟨q, hq⟩ : ∃ q, qs[k]'hlt2 = q := ⟨_, rfl⟩
          have HQ : Hid (qs.getD k 0 = q) := Lib.hid (by rw [← hq, List.getD_eq_getElem?_getD, List.getElem?_eq_getElem hlt2]; rfl)
          have hq0 : 0 ≤ q := by rw [← hq]; exact (HL.out _ (List.getElem_mem hlt2)).1
          rw [hq] at hc
          have hkc : (k : Int) < qs.length := by omega
          clear hq
          by_cases g1 : 16777216 < q
          · go_wp2_with fail
            go_ret
            exact ⟨rfl, L2.out.2.1⟩
          by_cases g2 : q < M
          · go_wp2_with fail
            go_ret
            exact ⟨rfl, L2.out.2.1⟩
          by_cases g3 : q = 0
          · have g3b : (q == 0) = true := by simpa using g3
            go_wp2_with fail
            go_ret
            exact ⟨rfl, L2.out.2.1⟩
          have g1b : decide (16777216 < q) = false := decide_eq_false g1
          have g2b : decide (q < M) = false := decide_eq_false g2
          have g3b : (q == 0) = false := by simpa using g3
          have hkw : (Lit.int .i64 (k : Int)).wf = true := by simp [Lit.wf, IntKind.min, IntKind.max, IntKind.signed, IntKind.bits]; omega
          have HKW := Lib.hid hkw
          obtain ⟨e1, e2, e3⟩ := fq_next (qs := qs) (k := k) (by have := QN.out; omega) (by rw [HQ.out]; omega)
          rw [HQ.out] at e1 e2 e3
          have E := Lib.hid (And.intro e1 (And.intro e2 e3))
          have NQ : Hid (∀ t, t < k + 1 → 0 < qs.getD t 0 ∧ qs.getD t 0 ≤ 16777216 ∧ M ≤ qs.getD t 0) := Lib.hid (fun t ht => by
            rcases Nat.lt_or_ge t k with h | h
            · exact Q2.out t h
            · obtain rfl : t = k := by omega
              rw [HQ.out]; omega)
          have HQ0 := Lib.hid hq0
          clear hkw e1 e2 e3
          go_wp2_with fail
          refine (set_any L2.out.1 k q HKW.out HQ0.out).mono ?_
          rintro e w5 ⟨rfl, t⟩
          obtain ⟨F5, l5⟩ := L2.out.turn t
          rw [E.out.1]
          have L5 := Lib.hid l5
          clear t l5
          go_wp2_with fail
          refine (wake_any L5.out.1 k HKW.out).mono ?_
          rintro e w6 ⟨rfl, t⟩
          obtain ⟨F6, l6⟩ := L5.out.turn t
          rw [E.out.2.2] at l6
          rw [E.out.2.1]
          have L6 := Lib.hid l6
          clear t l6
          go_wp2_with fail
          go_roundg (gk - 1)
          case measure => omega
          case rel => exact ⟨k + 1, by omega, by go_num, ⟨F6, L6.out⟩, NQ.out⟩
        · obtain rfl : k = qs.length := by omega
          have MQ : Hid (0 ≤ M ∧ M ≤ 16777216) := Lib.hid (by have h0 := Q2.out 0 (by have := QN.out; omega); have := HM0.out; omega)
          have HQS : Hid (∀ t, t < qs.length → M ≤ qs.getD t 0 ∧ qs.getD t 0 ≤ 16777216 ∧ 0 ≤ qs.getD t 0) := Lib.hid (fun t ht => by have := Q2.out t ht; omega)
          have HQA : Hid (∀ t, 0 ≤ qs.getD t 0 ∧ qs.getD t 0 ≤ 16777216) := Lib.hid (fun t => by
            rcases Nat.lt_or_ge t qs.length with h | h
            · have := Q2.out t h; omega
            · rw [List.getD_eq_getElem?_getD, List.getElem?_eq_none h]; simp)
          obtain ⟨gk9, hgk9⟩ : ∃ x, x = gk := ⟨_, rfl⟩
          clear hgk9
          have MZ : Hid (∀ t, t < m.length → 0 ≤ m.getD t 0 ∧ m.getD t 0 ≤ M) := Lib.hid (fun t ht => by
            refine ⟨?_, HM.out t (by omega)⟩
            rw [List.getD_eq_getElem?_getD, List.getElem?_eq_getElem ht]
            exact (HL2.out _ (List.getElem_mem ht)).1)
          have FL0 := Lib.hid (fb_start L2.out MQ.out.1)
          go_wp2_with fail
          obtain ⟨bk, hbk⟩ : ∃ bk, wr.heap.size = bk := ⟨_, rfl⟩
          rw [hbk] at FL0
          try rw [hbk]
          clear hbk
          generalize wr = wq at *
          go_loopg [88, 12] m.length (fun k i v wr => ∃ j : Nat, j + k = m.length ∧ i = .int .i64 j ∧ FL W sb bk qs M j v wr)
          case atStart => exact ⟨0, Nat.zero_add _, rfl, FL0.out⟩
          case round =>
            obtain ⟨j, hj, rfl, s, F, r, sent, ms, hm5, hp5, hl5⟩ := hrel
            have M5 := Lib.hid hm5
            have P5 := Lib.hid hp5
            have N5 := Lib.hid hl5
            clear FL0
            by_cases hlt3 : j < m.length
            · obtain ⟨ad, rfl, hc⟩ := usrc_one HS2.out M5.out.ds.2.1 hlt3
              obtain ⟨z, hz⟩ : ∃ z, m[j]'hlt3 = z := ⟨_, rfl⟩
              have HZ : Hid (0 ≤ z ∧ z ≤ M) := Lib.hid (by
                have := MZ.out j hlt3
                rw [List.getD_eq_getElem?_getD, List.getElem?_eq_getElem hlt3, hz] at this
                exact this)
              rw [hz] at hc
              have hjc : (j : Int) < m.length := by omega
              have JM : Hid (j < m.length) := Lib.hid hlt3
              have HJ := Lib.hid hj
              obtain ⟨gk0, hgk0⟩ : ∃ x, x = gk := ⟨_, rfl⟩
              have HGK := Lib.hid hgk0
              obtain ⟨A8, c8, hu8, -⟩ := own_form M5.out.row
              subst hu8
              have FI0 : Hid (FI W sb bk qs M j (.slice A8 ms.length c8) 0 false wr) := Lib.hid ⟨s, F, r, sent, ms, M5.out, N5.out, (fun h => by cases h), fun _ => ⟨P5.out, .inl rfl⟩, by decide⟩
              obtain ⟨nn, hnn⟩ : ∃ nn, ms.length = nn := ⟨_, rfl⟩
              have NN : Hid (nn = j + 1) := Lib.hid (by rw [← hnn]; exact N5.out)
              rw [hnn] at FI0
              clear hz hm5 hp5 hl5 hgk0 M5 P5
              go_wp2_with fail
              rw [hnn]
              clear hnn N5
              generalize wr = wp at *
              go_loopg [16, 15] 3 (fun k i dn wr => ∃ (kk : Nat) (b : Bool), kk + k = 3 ∧ i = .int .i64 kk ∧ dn = .bool b ∧ FI W sb bk qs M j (.slice A8 nn c8) kk b wr)
              case atStart => exact ⟨0, false, rfl, rfl, rfl, FI0.out⟩
              case round =>
                obtain ⟨kk, b, hkk, rfl, rfl, s, F, r, sent, ms, hm5, hl5, hpt, hpf, hk2⟩ := hrel
                have M5 := Lib.hid hm5
                have N5 := Lib.hid hl5
                clear FI0
                cases b with
                | true =>
                  have P5 := Lib.hid (hpt rfl)
                  have RG : Hid (wr.rangeAt bk 0 (uv sent)) := Lib.hid (fun t v hv => by rw [Nat.zero_add, cell_of_block M5.out.hk, List.getElem?_toArray]; exact hv)
                  have Y1 : Hid ((Try.prog.info? 30).map (·.size) = some (uv sent).length) := Lib.hid (by rw [uv_length, M5.out.len]; exact arrSize)
                  have Y2 : Hid ((uv sent).toArray.size = 8) := Lib.hid (by simp [uv, M5.out.len])
                  have Y3 : Hid ((uv sent).length = 8) := Lib.hid (by rw [uv_length, M5.out.len])
                  have SS : Hid (Src (wr.alloc (.cells (uv sent).toArray 30)) (some ⟨wr.heap.size, 0, none⟩) 1 1 (uv sent)) := Lib.hid (src_rows wr (uv sent) _ 1 (by simp [maxLen]))
                  have HR : Hid ((wr.alloc (.cells (uv sent).toArray 30)).ownsRow W.heap.size 30 8 (.slice A8 nn c8) nn (ms.map uv).flatten) := Lib.hid (by
                    have := own_same (w' := wr.alloc (.cells (uv sent).toArray 30)) M5.out.row fun k hk => heap_alloc_old wr _ (M5.out.row.lt k hk).2
                    rw [N5.out, ← NN.out] at this
                    exact this)
                  have HB8 : Hid ((nn + 1) * 64 ≤ 140737488355328) := Lib.hid (by have := NN.out; have := JM.out; have := MN.out; omega)
                  have HWS : Hid (W.heap.size ≤ (wr.alloc (.cells (uv sent).toArray 30)).heap.size) := Lib.hid (by have := M5.out.ds.2.1.size; simp; omega)
                  clear hm5 hl5 hpt hpf
                  go_wp2_with (first
                    | refine wpList_load_mid rfl 30 (.tmp 11) rfl bk 0 rfl (uv sent) _ RG.out Try.underlying30 rfl Y1.out ?_
                    | refine wpList_slice_one rfl 31 30 (.tmp 136) rfl 8 (.agg (uv (List.replicate 8 0)).toArray) (.agg (uv sent).toArray) rfl Try.underlying31 arrInfo2 (by decide) (by decide) Y2.out ?_
                    | (at_builtin; refine wpList_append_any rfl (.tmp 135) (.tmp 137) 31 rfl W.heap.size 30 (.agg (uv (List.replicate 8 0)).toArray) 8 64 Try.underlying31 arrInfo (by decide) (by decide) (by decide) (.slice A8 nn c8) nn _ rfl HR.out (some ⟨wr.heap.size, 0, none⟩) 1 1 (uv sent) rfl SS.out Y3.out (uv_one sent) HB8.out HWS.out ?_))
                  intro v' w7 ho7 hg7 _ hat7
                  have NX : Hid (FL W sb bk qs M (j + 1) v' w7) := Lib.hid (by
                    have hmn : ms.length = nn := by rw [N5.out, NN.out]
                    have M6 := M5.out
                    have hp : FBm W w7 sb bk v' s F sent (ms ++ [sent]) := FBm.push (v := .slice A8 nn c8) M6 (by rw [hmn]; exact ho7) hg7 (by simpa using hat7)
                    exact ⟨s, F, r, sent, ms ++ [sent], hp, P5.out.push M6.len (by have := JM.out; have := MN.out; rw [N5.out]; omega), by simp [N5.out]⟩)
                  obtain ⟨A9, c9, rfl, -⟩ := own_form ho7
                  clear ho7 hg7 hat7
                  go_wp2_with fail
                  go_roundg (gk0 - 1)
                  case measure => have := HGK.out; have := HJ.out; have := JM.out; omega
                  case rel => exact ⟨j + 1, by have := HGK.out; have := HJ.out; have := JM.out; omega, by go_num, NX.out⟩
                | false =>
                  obtain ⟨hp5, hkc⟩ := hpf rfl
                  have P5 := Lib.hid hp5
                  obtain ⟨x, rest, ha, hrne, hx0, hxn⟩ := act_two hp5.fr QN.out.1
                  obtain ⟨xn, rfl⟩ := Int.eq_ofNat_of_zero_le hx0
                  obtain ⟨m', r', hfr, hV, hfm, hvis, ha2, hd0, hbig⟩ := hp5.fr.visit ha MQ.out HQS.out
                  have HFR := Lib.hid hfr
                  have HV := Lib.hid hV
                  have HFM := Lib.hid hfm
                  have HVIS := Lib.hid hvis
                  have HA2 := Lib.hid ha2
                  have HRNE := Lib.hid hrne
                  have K1 : Hid (z ≤ m'.df ∨ kk = 0) := Lib.hid (by
                    rcases hkc with h | ⟨h, x2, rest2, hx2, hv2⟩
                    · exact .inr h
                    · rw [ha] at hx2
                      injection hx2 with e1 e2
                      subst e1
                      left
                      have := hbig hv2
                      have := HZ.out
                      omega)
                  have hkk2 : kk < 2 := by
                    rcases hkc with h | h
                    · omega
                    · have := h.1; omega
                  have HXN : Hid (xn < qs.length ∧ xn < 8) := Lib.hid (by have := QN.out; omega)
                  have HKK := Lib.hid hkk
                  obtain ⟨df, hdf⟩ : ∃ df, m'.df = df := ⟨_, rfl⟩
                  rw [hdf] at hV
                  have HDF := Lib.hid hdf
                  have HV2 := Lib.hid hV
                  have hxc : (xn : Int) < qs.length := hxn
                  clear hm5 hl5 hpt hpf hp5 hkc ha hrne hx0 hxn hfr hV hfm hvis ha2 hd0 hbig hdf HV
                  go_wp2_with fail
                  refine (front_any M5.out.ds.1).mono ?_
                  rintro e w6 ⟨rfl, t⟩
                  obtain ⟨F6, m6⟩ := M5.out.turn t
                  rw [HV2.out]
                  have M6 := Lib.hid m6
                  clear t m6
                  by_cases hle : z ≤ df
                  · have hleb : decide (z ≤ df) = true := decide_eq_true hle
                    obtain ⟨s1, s2, s3⟩ := HFR.out.sends HA2.out HFM.out HVIS.out HZ.out.1 (by rw [HDF.out]; exact hle) (by rw [Int.toNat_natCast, M6.out.len]; exact HXN.out.2)
                    rw [Int.toNat_natCast] at s2
                    have PN := Lib.hid (P5.out.adds (n := z) (by have := HZ.out; have := MQ.out; omega) (by rw [M6.out.len]; exact HXN.out.2) s2)
                    have SB := Lib.hid s1
                    clear s1 s2 s3
                    go_wp2_with fail
                    refine (spend_any M6.out.ds.1 z HZ.out.1).mono ?_
                    rintro e w7 ⟨rfl, t⟩
                    obtain ⟨F7, m7⟩ := M6.out.turn t
                    rw [SB.out]
                    have M7 := Lib.hid m7
                    have ca : w7.cell? ⟨bk, xn, none⟩ = some (.int .u64 (sent.getD xn 0)) := (cell_of_block m7.hk xn).trans (by
                      rw [List.getElem?_toArray]
                      unfold uv
                      rw [List.getElem?_map, List.getElem?_eq_getElem (by rw [m7.len]; exact HXN.out.2), List.getD_eq_getElem?_getD, List.getElem?_eq_getElem (by rw [m7.len]; exact HXN.out.2)]
                      rfl)
                    have fa := free_of_block m7.hk xn
                    have hx8 : (xn : Int) < 8 := by have := HXN.out; omega
                    have hmost := P5.out.most xn
                    have W1 : IntKind.u64.wrap (sent.getD xn 0 + z) = sent.getD xn 0 + z := wrap64 (by have := HZ.out; omega) (by have := HZ.out; have := MQ.out; have := JM.out; have := MN.out; omega)
                    have NX : Hid (FI W sb bk qs M j (.slice A8 nn c8) (kk + 1) true (w7.setCell ⟨bk, xn, none⟩ (.int .u64 (sent.getD xn 0 + z)))) := Lib.hid
                      ⟨_, F7, r', _, ms, m7.put xn (sent.getD xn 0 + z), N5.out, fun _ => PN.out, (fun h => by cases h), by omega⟩
                    clear t m7 hmost
                    generalize sent.getD xn 0 = sx at *
                    go_wp2_with fail
                    go_roundg (gk - 1)
                    case measure => have := HKK.out; omega
                    case rel => exact ⟨kk + 1, true, by have := HKK.out; omega, by go_num, rfl, NX.out⟩
                  · have hleb : decide (z ≤ df) = false := decide_eq_false hle
                    have hk0 : kk = 0 := by rcases K1.out with h | h; exact absurd (by rw [HDF.out] at h; exact h) hle; exact h
                    obtain ⟨s1, s2, y, rest', s3, s4⟩ := HFR.out.leaves HA2.out HFM.out HVIS.out (by rw [HDF.out]; have := HZ.out; omega) HRNE.out
                    have PN := Lib.hid (P5.out.other s2)
                    have SB := Lib.hid s1
                    have SH := Lib.hid (And.intro s3 s4)
                    have HK0 := Lib.hid hk0
                    clear s1 s2 s3 s4
                    go_wp2_with fail
                    refine (next_any M6.out.ds.1).mono ?_
                    rintro e w7 ⟨rfl, t⟩
                    obtain ⟨F7, m7⟩ := M6.out.turn t
                    rw [SB.out]
                    have NX : Hid (FI W sb bk qs M j (.slice A8 nn c8) (kk + 1) false w7) := Lib.hid
                      ⟨_, F7, r', _, ms, m7, N5.out, (fun h => by cases h), fun _ => ⟨PN.out, .inr ⟨by have := HK0.out; omega, y, rest', SH.out.1, SH.out.2⟩⟩, by omega⟩
                    clear t m7
                    go_wp2_with fail
                    go_roundg (gk - 1)
                    case measure => have := HKK.out; omega
                    case rel => exact ⟨kk + 1, false, by have := HKK.out; omega, by go_num, rfl, NX.out⟩
            · obtain rfl : j = m.length := by omega
              obtain ⟨A8, c8, hu8, hc81, hc82, hc83, hc84⟩ := own_form M5.out.row
              subst hu8
              unfold maxLen at hc82
              have TW : Hid (∀ (a b : Nat) (hab : a ≤ b) (hb : b < ms.length), Two qs M (ms[a]'(by omega)) (ms[b]'hb)) := Lib.hid (fun a b hab hb => P5.out.two (by have := MN.out; omega) QN.out.2 HQA.out MQ.out hab hb)
              have L8 : Hid (∀ a (ha : a < ms.length), (ms[a]'ha).length = 8) := Lib.hid (fun a ha => (P5.out.each _ (List.getElem_mem ha)).2.1)
              obtain ⟨ga, hga⟩ : ∃ g, A8 = some ⟨g, 0, none⟩ := by
                cases A8 with
                | none => have := (hc83 rfl).1; rw [N5.out] at this; omega
                | some ad => obtain ⟨g, rfl, -⟩ := hc84 ad rfl; exact ⟨g, rfl⟩
              subst hga
              have GL : Hid (ga < wr.heap.size) := Lib.hid (M5.out.row.lt ga rfl).2
              have CL : Hid (∀ a (ha : a < ms.length) (t : Nat), t < 8 → wr.cell? ⟨ga, a * 8 + t, none⟩ = some (.int .u64 ((ms[a]'ha).getD t 0))) := Lib.hid (fun a ha t ht => by
                obtain ⟨g, he, hcell⟩ := hc84 _ rfl
                injection he with he
                subst he
                refine hcell (a * 8 + t) _ ?_
                rw [flat_get8 (uv_rows ms (fun x hx => (P5.out.each x hx).2.1)) a t ht, List.getElem?_map, List.getElem?_eq_getElem ha]
                show (uv (ms[a]'ha))[t]? = _
                unfold uv
                rw [List.getElem?_map, List.getElem?_eq_getElem (by rw [L8.out a ha]; exact ht), List.getD_eq_getElem?_getD, List.getElem?_eq_getElem (by rw [L8.out a ha]; exact ht)]
                rfl)
              have BW := Lib.hid M5.out.ds.2.1
              obtain ⟨nn, hnn⟩ : ∃ nn, ms.length = nn := ⟨_, rfl⟩
              have NN := Lib.hid hnn
              rw [hnn] at hc81 ⊢
              clear hm5 hp5 hl5 hc83 hc84 hnn M5 P5 N5
              go_wp2_with fail
              generalize wr = wz at *
              go_loopg [142] nn (fun k i wr => ∃ a : Nat, a + k = nn ∧ i = .int .i64 a ∧ Below wz.heap.size wz wr)
              case atStart => exact ⟨0, Nat.zero_add _, rfl, Below.refl _ _⟩
              case round =>
                obtain ⟨a, ha, rfl, hb1⟩ := hrel
                have B1 := Lib.hid hb1
                clear hb1
                by_cases hla : a < nn
                · have HLA := Lib.hid hla
                  have HAK := Lib.hid ha
                  obtain ⟨gk0, hgk0⟩ : ∃ x, x = gk := ⟨_, rfl⟩
                  have HGK := Lib.hid hgk0
                  have hac : (a : Int) < nn := by omega
                  clear hgk0
                  go_wp2_with fail
                  generalize wr = w2 at *
                  go_loopg [21] (nn - a) (fun k i wr => ∃ b : Nat, b + k = nn ∧ i = .int .i64 b ∧ a ≤ b ∧ Below wz.heap.size wz wr)
                  case atStart => exact ⟨a, by have := HLA.out; omega, rfl, Nat.le_refl _, B1.out⟩
                  case round =>
                    obtain ⟨b, hb, rfl, hab, hb2⟩ := hrel
                    have B2 := Lib.hid hb2
                    have HAB := Lib.hid hab
                    have HBK := Lib.hid hb
                    clear hb2
                    by_cases hlb : b < nn
                    · have hbc : (b : Int) < nn := by omega
                      have h8a := L8.out a (by rw [NN.out]; exact HLA.out)
                      have h8b := L8.out b (by rw [NN.out]; exact hlb)
                      have tw := TW.out a b HAB.out (by rw [NN.out]; exact hlb)
                      have ca := CL.out a (by rw [NN.out]; exact HLA.out)
                      have cb := CL.out b (by rw [NN.out]; exact hlb)
                      generalize ms[a]'(by rw [NN.out]; exact HLA.out) = xs at *
                      generalize ms[b]'(by rw [NN.out]; exact hlb) = ys at *
                      obtain ⟨x0, x1, x2, x3, x4, x5, x6, x7, rfl⟩ := list8 h8a
                      obtain ⟨y0, y1, y2, y3, y4, y5, y6, y7, rfl⟩ := list8 h8b
                      have BD : Hid (Below wz.heap.size wz wr.drew) := Lib.hid (below_dr B2.out)
                      have p0 : wr.drew.cell? ⟨ga, a * 8, none⟩ = some (.int .u64 x0) := (BD.out.cell (p := ⟨ga, a * 8 + 0, none⟩) GL.out).trans (ca 0 (by decide))
                      have p1 : wr.drew.cell? ⟨ga, a * 8 + 1, none⟩ = some (.int .u64 x1) := (BD.out.cell (p := ⟨ga, a * 8 + 1, none⟩) GL.out).trans (ca 1 (by decide))
                      have p2 : wr.drew.cell? ⟨ga, a * 8 + 2, none⟩ = some (.int .u64 x2) := (BD.out.cell (p := ⟨ga, a * 8 + 2, none⟩) GL.out).trans (ca 2 (by decide))
                      have p3 : wr.drew.cell? ⟨ga, a * 8 + 3, none⟩ = some (.int .u64 x3) := (BD.out.cell (p := ⟨ga, a * 8 + 3, none⟩) GL.out).trans (ca 3 (by decide))
                      have p4 : wr.drew.cell? ⟨ga, a * 8 + 4, none⟩ = some (.int .u64 x4) := (BD.out.cell (p := ⟨ga, a * 8 + 4, none⟩) GL.out).trans (ca 4 (by decide))
                      have p5 : wr.drew.cell? ⟨ga, a * 8 + 5, none⟩ = some (.int .u64 x5) := (BD.out.cell (p := ⟨ga, a * 8 + 5, none⟩) GL.out).trans (ca 5 (by decide))
                      have p6 : wr.drew.cell? ⟨ga, a * 8 + 6, none⟩ = some (.int .u64 x6) := (BD.out.cell (p := ⟨ga, a * 8 + 6, none⟩) GL.out).trans (ca 6 (by decide))
                      have p7 : wr.drew.cell? ⟨ga, a * 8 + 7, none⟩ = some (.int .u64 x7) := (BD.out.cell (p := ⟨ga, a * 8 + 7, none⟩) GL.out).trans (ca 7 (by decide))
                      have q0 : wr.drew.cell? ⟨ga, b * 8, none⟩ = some (.int .u64 y0) := (BD.out.cell (p := ⟨ga, b * 8 + 0, none⟩) GL.out).trans (cb 0 (by decide))
                      have q1 : wr.drew.cell? ⟨ga, b * 8 + 1, none⟩ = some (.int .u64 y1) := (BD.out.cell (p := ⟨ga, b * 8 + 1, none⟩) GL.out).trans (cb 1 (by decide))
                      have q2 : wr.drew.cell? ⟨ga, b * 8 + 2, none⟩ = some (.int .u64 y2) := (BD.out.cell (p := ⟨ga, b * 8 + 2, none⟩) GL.out).trans (cb 2 (by decide))
                      have q3 : wr.drew.cell? ⟨ga, b * 8 + 3, none⟩ = some (.int .u64 y3) := (BD.out.cell (p := ⟨ga, b * 8 + 3, none⟩) GL.out).trans (cb 3 (by decide))
                      have q4 : wr.drew.cell? ⟨ga, b * 8 + 4, none⟩ = some (.int .u64 y4) := (BD.out.cell (p := ⟨ga, b * 8 + 4, none⟩) GL.out).trans (cb 4 (by decide))
                      have q5 : wr.drew.cell? ⟨ga, b * 8 + 5, none⟩ = some (.int .u64 y5) := (BD.out.cell (p := ⟨ga, b * 8 + 5, none⟩) GL.out).trans (cb 5 (by decide))
                      have q6 : wr.drew.cell? ⟨ga, b * 8 + 6, none⟩ = some (.int .u64 y6) := (BD.out.cell (p := ⟨ga, b * 8 + 6, none⟩) GL.out).trans (cb 6 (by decide))
                      have q7 : wr.drew.cell? ⟨ga, b * 8 + 7, none⟩ = some (.int .u64 y7) := (BD.out.cell (p := ⟨ga, b * 8 + 7, none⟩) GL.out).trans (cb 7 (by decide))
                      have GD : Hid (ga < wr.drew.heap.size) := Lib.hid (Nat.lt_of_lt_of_le GL.out BD.out.size)
                      have SQ : Hid (Src wr.drew A qs.length c (uv qs)) := Lib.hid (HS.out.same fun ad had hne => (BW.out.trans (BD.out.mono BW.out.size)).block _ (HS.out.lt had hne))
                      have SH := Lib.hid (shares_any SQ.out tw)
                      clear ca cb tw h8a h8b hab hb
                      go_upto_region 47 with fail
                      go_region_held3 (fun w' => w'.cell? ⟨ga, a * 8, none⟩ = some (.int .u64 x0) ∧ w'.cell? ⟨ga, a * 8 + 1, none⟩ = some (.int .u64 x1) ∧ w'.cell? ⟨ga, a * 8 + 2, none⟩ = some (.int .u64 x2) ∧ w'.cell? ⟨ga, a * 8 + 3, none⟩ = some (.int .u64 x3) ∧ w'.cell? ⟨ga, a * 8 + 4, none⟩ = some (.int .u64 x4) ∧ w'.cell? ⟨ga, a * 8 + 5, none⟩ = some (.int .u64 x5) ∧ w'.cell? ⟨ga, a * 8 + 6, none⟩ = some (.int .u64 x6) ∧ w'.cell? ⟨ga, a * 8 + 7, none⟩ = some (.int .u64 x7) ∧ w'.cell? ⟨ga, b * 8, none⟩ = some (.int .u64 y0) ∧ w'.cell? ⟨ga, b * 8 + 1, none⟩ = some (.int .u64 y1) ∧ w'.cell? ⟨ga, b * 8 + 2, none⟩ = some (.int .u64 y2) ∧ w'.cell? ⟨ga, b * 8 + 3, none⟩ = some (.int .u64 y3) ∧ w'.cell? ⟨ga, b * 8 + 4, none⟩ = some (.int .u64 y4) ∧ w'.cell? ⟨ga, b * 8 + 5, none⟩ = some (.int .u64 y5) ∧ w'.cell? ⟨ga, b * 8 + 6, none⟩ = some (.int .u64 y6) ∧ w'.cell? ⟨ga, b * 8 + 7, none⟩ = some (.int .u64 y7)) (first | exact ⟨p0, p1, p2, p3, p4, p5, p6, p7, q0, q1, q2, q3, q4, q5, q6, q7⟩ | exact QS.out)
                        ((go_at_call 15; refine SH.out.mono ?_; rintro e w9 ⟨rfl, hb9⟩; have B9 := Lib.hid hb9; clear hb9
                          have QS := Lib.hid (And.intro ((B9.out.cell (p := ⟨ga, a * 8, none⟩) GD.out).trans p0) (And.intro ((B9.out.cell (p := ⟨ga, a * 8 + 1, none⟩) GD.out).trans p1) (And.intro ((B9.out.cell (p := ⟨ga, a * 8 + 2, none⟩) GD.out).trans p2) (And.intro ((B9.out.cell (p := ⟨ga, a * 8 + 3, none⟩) GD.out).trans p3) (And.intro ((B9.out.cell (p := ⟨ga, a * 8 + 4, none⟩) GD.out).trans p4) (And.intro ((B9.out.cell (p := ⟨ga, a * 8 + 5, none⟩) GD.out).trans p5) (And.intro ((B9.out.cell (p := ⟨ga, a * 8 + 6, none⟩) GD.out).trans p6) (And.intro ((B9.out.cell (p := ⟨ga, a * 8 + 7, none⟩) GD.out).trans p7) (And.intro ((B9.out.cell (p := ⟨ga, b * 8, none⟩) GD.out).trans q0) (And.intro ((B9.out.cell (p := ⟨ga, b * 8 + 1, none⟩) GD.out).trans q1) (And.intro ((B9.out.cell (p := ⟨ga, b * 8 + 2, none⟩) GD.out).trans q2) (And.intro ((B9.out.cell (p := ⟨ga, b * 8 + 3, none⟩) GD.out).trans q3) (And.intro ((B9.out.cell (p := ⟨ga, b * 8 + 4, none⟩) GD.out).trans q4) (And.intro ((B9.out.cell (p := ⟨ga, b * 8 + 5, none⟩) GD.out).trans q5) (And.intro ((B9.out.cell (p := ⟨ga, b * 8 + 6, none⟩) GD.out).trans q6) ((B9.out.cell (p := ⟨ga, b * 8 + 7, none⟩) GD.out).trans q7))))))))))))))))))
                      go_wp2_with fail
                      go_roundg (gk - 1)
                      case measure => have := HBK.out; omega
                      case rel => exact ⟨b + 1, by have := HBK.out; omega, by go_num, by have := HAB.out; omega, BD.out.trans (B9.out.mono BD.out.size)⟩
                    · go_wp2_with fail
                      go_roundg (gk0 - 1)
                      case measure => have := HGK.out; have := HAK.out; have := HLA.out; omega
                      case rel => exact ⟨a + 1, by have := HGK.out; have := HAK.out; have := HLA.out; omega, by go_num, B2.out⟩
                · go_wp2_with fail
                  go_ret
                  exact ⟨rfl, BW.out.trans (B1.out.mono BW.out.size)⟩
end Go.Proofs.Ytliepgmjpbjhfaa.Drr
