/- The walks of the laws FrameSizes and FrameBack. There are no conditions beyond each lemma's own hypotheses. -/
import Derived.Test.YtbpmakfgjdjmaaaFgFrameLaws
set_option linter.unusedVariables false
set_option linter.unusedSimpArgs false
namespace Go.Proofs.Ytbpmakfgjdjmaaa.Frame
open Go.RowKit Go.Proofs.Ytbpmakfgjdjmaaa.Fg Go.Proofs.Ytbpmakfgjdjmaaa.Crc Go.Proofs.Ytbpmakfgjdjmaaa.Disk

theorem secs_of {n : Int} (h0 : 0 ≤ n) (h1 : n ≤ 700) : secs n = (n + 81) / 64 := if_pos ⟨h0, h1⟩
set_option maxRecDepth 100000 in
set_option maxHeartbeats 4000000 in
theorem sizes_any (r : Rec) (hok : r.ok) (A : Option Addr) (c : Nat) (more : Int) (hm : (Lit.int .i64 more).wf = true) (W : World) (hs : Fg.Src W A r.pay.length c (bv r.pay)) (hrb : r.pay.length ≤ reachBytes) :
    Calls Try.prog 8 #[recv A c r, .int .i64 more] W fun e w' => e = .returned (.bool true) ∧ Below W.heap.size W w' := by
  have hmb : -9223372036854775808 ≤ more ∧ more ≤ 9223372036854775807 := by simpa [Lit.wf, IntKind.min, IntKind.max, IntKind.signed, IntKind.bits] using hm
  obtain ⟨hmb0, hmb1⟩ := hmb
  have S0 := Lib.hid hs
  clear hs hm
  unfold recv
  go_enter Try.func8, Try.ntmps8
  have HG0 : Hid ((W.alloc (.cells #[.int .u64 r.seq, .int .u32 r.epoch, .slice A r.pay.length c] 30)).heap[W.heap.size]? = some (.cells #[.int .u64 r.seq, .int .u32 r.epoch, .slice A r.pay.length c] 30)) := Lib.hid (heap_alloc_at W _)
  have B0 : Hid (Below W.heap.size W (W.alloc (.cells #[.int .u64 r.seq, .int .u32 r.epoch, .slice A r.pay.length c] 30))) := Lib.hid ((Below.refl _ _).alloc (Nat.le_refl _) _)
  go_upto_region 1 with fail
  obtain ⟨w1, hw1⟩ : ∃ w1, W.alloc (.cells #[.int .u64 r.seq, .int .u32 r.epoch, .slice A r.pay.length c] 30) = w1 := ⟨_, rfl⟩
  rw [hw1] at HG0 B0 ⊢
  clear hw1
  have hg := block_lt HG0.out
  have CC : Hid (∀ w', Below w1.heap.size w1 w' → w'.cell? ⟨W.heap.size, 0, none⟩ = some (.int .u64 r.seq) ∧ w'.cell? ⟨W.heap.size, 1, none⟩ = some (.int .u32 r.epoch) ∧ w'.cell? ⟨W.heap.size, 2, none⟩ = some (.slice A r.pay.length c)) :=
    Lib.hid (fun w' hb => ⟨(hb.cell (p := ⟨W.heap.size, 0, none⟩) hg).trans (cell_of_block HG0.out 0), (hb.cell (p := ⟨W.heap.size, 1, none⟩) hg).trans (cell_of_block HG0.out 1), (hb.cell (p := ⟨W.heap.size, 2, none⟩) hg).trans (cell_of_block HG0.out 2)⟩)
  have SA : Hid (∀ w', Below w1.heap.size w1 w' → Fg.Src w' A r.pay.length c (bv r.pay)) := Lib.hid (fun w' hb => S0.out.same fun ad had hne => ((B0.out.trans (hb.mono B0.out.size)).block _ (S0.out.lt had hne)))
  clear hg
  go_wp2_with fail
  refine (alive_any w1).mono ?_
  rintro e w2 ⟨rfl, hb2⟩
  have B2 := Lib.hid hb2
  obtain ⟨k0, k1, k2⟩ := CC.out w2 hb2
  clear hb2
  by_cases hout : 2000 < r.pay.length ∨ more < 0 ∨ 2000 < more
  · rcases Nat.lt_or_ge 2000 r.pay.length with h | h
    · have hbI : (2000 : Int) < r.pay.length := by omega
      clear hout
      go_wp2_with fail
      go_ret
      exact ⟨rfl, B0.out.trans (B2.out.mono B0.out.size)⟩
    · have hbI : ¬ ((2000 : Int) < r.pay.length) := by omega
      rcases Int.lt_or_le more 0 with h0 | h0
      · clear hout
        go_wp2_with fail
        go_ret
        exact ⟨rfl, B0.out.trans (B2.out.mono B0.out.size)⟩
      · have h3 : 2000 < more := by omega
        clear hout
        go_wp2_with fail
        go_ret
        exact ⟨rfl, B0.out.trans (B2.out.mono B0.out.size)⟩
  · have hbI : ¬ ((2000 : Int) < r.pay.length) := by omega
    have hlI : (r.pay.length : Int) ≤ 2000 := by omega
    have hm0 : ¬ (more < 0) := by omega
    have hm2 : ¬ (2000 < more) := by omega
    have hm3 : more ≤ 2000 := by omega
    have hm4 : 0 ≤ more := by omega
    have MK : Hid (∀ A c w', Fg.Src w' A r.pay.length c (bv r.pay) → Calls Try.prog 9 #[.agg #[.int .u64 r.seq, .int .u32 r.epoch, .slice A r.pay.length c]] w' (MadeE r w')) := Lib.hid (fun A c w' h => make_any r hok (by omega) A c w' h)
    clear hout
    go_wp2_with fail
    refine (MK.out A c w2 (SA.out _ B2.out)).mono ?_
    rintro e w4 ⟨A6, c6, rfl, ho4, hb4⟩
    have B4 : Hid (Below w1.heap.size w1 w4) := Lib.hid (B2.out.trans (hb4.mono B2.out.size))
    have SL := Lib.hid (SecsAt.of_own ho4 (Rec.made_secs hok.small))
    clear ho4 hb4 k0 k1 k2
    obtain ⟨k0, k1, k2⟩ := CC.out w4 B4.out
    by_cases hg : r.good
    · have hmany := Rec.many_of hg.1
      have hml := Rec.made_length hg
      have herr : r.err = 0 := if_pos hg
      have h7 : (r.pay.length : Int) ≤ 700 := by have := hg.1; omega
      have SH := Lib.hid (fun k (hk : k < r.many) => made_short hok hg hk)
      rw [herr]
      have SLM := Lib.hid (fun w' k (hk : k ≤ r.many) (hb : Below w4.heap.size w4 w') => (SL.out.below hb).take (m := k) (by rw [hml]; exact hk))
      have HTL := Lib.hid (fun k (hk : k ≤ r.many) => (by rw [List.length_take, hml]; omega : (r.made.take k).length = k))
      rw [hml]
      have hcap : r.many ≤ c6 := by have := SL.out.src.cap; omega
      generalize r.many = m at *
      have HMY := Lib.hid hmany
      have hm12 : (m : Int) ≤ 12 := by omega
      have hmp : 1 ≤ (m : Int) := by omega
      clear herr hg hml hmany
      go_wp2_with fail
      go_loopg [44] m (fun k i wr => ∃ j : Nat, j + k = m ∧ i = .int .i64 j ∧ Below w4.heap.size w4 wr)
      case atStart => exact ⟨0, Nat.zero_add _, rfl, Below.refl _ _⟩
      case round =>
        obtain ⟨j, hj, rfl, hbel⟩ := hrel
        have HBE := Lib.hid hbel
        clear hbel k0 k1 k2
        by_cases hlt : j < m
        · have OP := fopen_any (r.made.take j) (A6) c6 wr (SLM.out wr j (by omega) HBE.out) (by rw [HTL.out j (by omega)]; omega)
          rw [HTL.out j (by omega)] at OP
          have OP := Lib.hid OP
          have hjc : (j : Int) ≤ c6 := by omega
          go_wp2_with fail
          refine OP.out.mono ?_
          rintro e w6 ⟨A7, c7, rfl, -, hb6⟩
          rw [decide_eq_false (SH.out j hlt)]
          have B6 : Hid (Below w4.heap.size w4 w6) := Lib.hid (HBE.out.trans (hb6.mono HBE.out.size))
          clear hb6
          unfold recv
          go_wp2_with fail
          go_roundg (gk - 1)
          case measure => omega
          case rel => exact ⟨j + 1, by omega, by go_num, B6.out.alloc B6.out.size _⟩
        · obtain rfl : j = m := by omega
          have BE : Hid (Below w1.heap.size w1 wr) := Lib.hid (B4.out.trans (HBE.out.mono B4.out.size))
          obtain ⟨k0, k1, k2⟩ := CC.out wr BE.out
          have hq1 : (r.pay.length : Int) + 18 ≤ 64 * (j : Int) := by have := HMY.out; omega
          have hq2 : 64 * ((j : Int) - 1) < (r.pay.length : Int) + 18 := by have := HMY.out; omega
          have hq3 : 0 ≤ (r.pay.length : Int) + more := by omega
          have hsec : (j : Int) ≤ secs ((r.pay.length : Int) + more) ∨ 700 < (r.pay.length : Int) + more := by
            rcases Int.lt_or_le 700 ((r.pay.length : Int) + more) with h | h
            · exact .inr h
            · refine .inl ?_
              rw [secs_of hq3 h]
              have := HMY.out
              omega
          have SZ := Lib.hid (size_any ((r.pay.length : Int) + more) (by omega) wr)
          clear SLM HTL SH
          go_wp2_with fail
          refine SZ.out.mono ?_
          rintro e w7 ⟨rfl, rfl⟩
          generalize secs ((r.pay.length : Int) + more) = sn at *
          rcases Int.lt_or_le sn (j : Int) with h | h
          · have h2 : 700 < (r.pay.length : Int) + more := by omega
            clear hsec
            go_wp2_with fail
            go_ret
            exact ⟨rfl, B0.out.trans (BE.out.mono B0.out.size)⟩
          · clear hsec
            go_wp2_with fail
            go_ret
            exact ⟨rfl, B0.out.trans (BE.out.mono B0.out.size)⟩
    · have herr : r.err = 81 := if_neg hg
      have hnm : r.made.length = 0 := by rw [Rec.made_nil hg]; rfl
      rw [herr, hnm]
      clear herr hnm
      by_cases h0 : r.seq = 0
      · have hb : (r.seq == 0) = true := beq_iff_eq.2 h0
        clear hg h0
        go_wp2_with fail
        go_ret
        exact ⟨rfl, B0.out.trans (B4.out.mono B0.out.size)⟩
      · have hb : (r.seq == 0) = false := beq_eq_false_iff_ne.2 h0
        have h7 : (700 : Int) < r.pay.length := by
          rcases Nat.lt_or_ge 700 r.pay.length with h | h
          · omega
          · exact absurd ⟨h, h0⟩ hg
        clear hg h0
        go_wp2_with fail
        go_ret
        exact ⟨rfl, B0.out.trans (B4.out.mono B0.out.size)⟩

set_option maxRecDepth 100000 in
set_option maxHeartbeats 8000000 in
theorem back_any (r : Rec) (hok : r.ok) (A : Option Addr) (c : Nat) (l : List (List Int)) (B : Option Addr) (d : Nat) (W : World) (hs : Fg.Src W A r.pay.length c (bv r.pay)) (hrb : r.pay.length ≤ reachBytes) (hl : SecsAt W B d l) :
    Calls Try.prog 6 #[recv A c r, .slice B l.length d] W fun e w' => e = .returned (.bool true) ∧ Below W.heap.size W w' := by
  have S0 := Lib.hid hs
  have L0 := Lib.hid hl
  have hdc := hl.src.cap
  clear hs hl
  unfold recv
  go_enter Try.func6, Try.ntmps6
  have HG0 : Hid ((W.alloc (.cells #[.int .u64 r.seq, .int .u32 r.epoch, .slice A r.pay.length c] 30)).heap[W.heap.size]? = some (.cells #[.int .u64 r.seq, .int .u32 r.epoch, .slice A r.pay.length c] 30)) := Lib.hid (heap_alloc_at W _)
  have B0 : Hid (Below W.heap.size W (W.alloc (.cells #[.int .u64 r.seq, .int .u32 r.epoch, .slice A r.pay.length c] 30))) := Lib.hid ((Below.refl _ _).alloc (Nat.le_refl _) _)
  go_upto_region 1 with fail
  obtain ⟨w1, hw1⟩ : ∃ w1, W.alloc (.cells #[.int .u64 r.seq, .int .u32 r.epoch, .slice A r.pay.length c] 30) = w1 := ⟨_, rfl⟩
  rw [hw1] at HG0 B0 ⊢
  clear hw1
  have hg := block_lt HG0.out
  have CC : Hid (∀ w', Below w1.heap.size w1 w' → w'.cell? ⟨W.heap.size, 0, none⟩ = some (.int .u64 r.seq) ∧ w'.cell? ⟨W.heap.size, 1, none⟩ = some (.int .u32 r.epoch) ∧ w'.cell? ⟨W.heap.size, 2, none⟩ = some (.slice A r.pay.length c)) :=
    Lib.hid (fun w' hb => ⟨(hb.cell (p := ⟨W.heap.size, 0, none⟩) hg).trans (cell_of_block HG0.out 0), (hb.cell (p := ⟨W.heap.size, 1, none⟩) hg).trans (cell_of_block HG0.out 1), (hb.cell (p := ⟨W.heap.size, 2, none⟩) hg).trans (cell_of_block HG0.out 2)⟩)
  have SA : Hid (∀ w', Below w1.heap.size w1 w' → Fg.Src w' A r.pay.length c (bv r.pay)) := Lib.hid (fun w' hb => S0.out.same fun ad had hne => ((B0.out.trans (hb.mono B0.out.size)).block _ (S0.out.lt had hne)))
  have SLM : Hid (∀ w', Below w1.heap.size w1 w' → SecsAt w' B d l) := Lib.hid (fun w' hb => L0.out.below (B0.out.trans (hb.mono B0.out.size)))
  clear hg S0 L0
  go_wp2_with fail
  refine (alive_any w1).mono ?_
  rintro e w2 ⟨rfl, hb2⟩
  have B2 := Lib.hid hb2
  obtain ⟨k0, k1, k2⟩ := CC.out w2 hb2
  clear hb2
  by_cases hout : 2000 < r.pay.length ∨ 40 < l.length
  · rcases Nat.lt_or_ge 2000 r.pay.length with h | h
    · have hbI : (2000 : Int) < r.pay.length := by omega
      clear hout
      go_wp2_with fail
      go_ret
      exact ⟨rfl, B0.out.trans (B2.out.mono B0.out.size)⟩
    · have hbI : ¬ ((2000 : Int) < r.pay.length) := by omega
      have h3 : (40 : Int) < l.length := by omega
      clear hout
      go_wp2_with fail
      go_ret
      exact ⟨rfl, B0.out.trans (B2.out.mono B0.out.size)⟩
  · have hbI : ¬ ((2000 : Int) < r.pay.length) := by omega
    have hb4 : ¬ ((40 : Int) < l.length) := by omega
    have hlI : (r.pay.length : Int) ≤ 2000 := by omega
    have hl40 : l.length ≤ 40 := by omega
    have hd1 : decide ((2000 : Int) < r.pay.length) = false := decide_eq_false (by omega)
    have hd2 : decide ((40 : Int) < l.length) = false := decide_eq_false (by omega)
    have MK : Hid (∀ A c w', Fg.Src w' A r.pay.length c (bv r.pay) → Calls Try.prog 9 #[.agg #[.int .u64 r.seq, .int .u32 r.epoch, .slice A r.pay.length c]] w' (MadeE r w')) := Lib.hid (fun A c w' h => make_any r hok (by omega) A c w' h)
    clear hout
    go_wp2_with fail
    refine (MK.out A c w2 (SA.out _ B2.out)).mono ?_
    rintro e w4 ⟨A6, c6, rfl, ho4, hb4'⟩
    have B4 : Hid (Below w1.heap.size w1 w4) := Lib.hid (B2.out.trans (hb4'.mono B2.out.size))
    have SL := Lib.hid (SecsAt.of_own ho4 (Rec.made_secs hok.small))
    clear ho4 hb4' k0 k1 k2
    obtain ⟨m, hm⟩ : ∃ m, r.made.length = m := ⟨_, rfl⟩
    obtain ⟨er, her⟩ : ∃ er, r.err = er := ⟨_, rfl⟩
    rw [hm, her]
    have HM := Lib.hid hm
    have HER := Lib.hid her
    clear hm her
    go_upto_if 32 with fail
    go_cut [] (fun wx => Below w1.heap.size w1 wx)
    case first =>
      by_cases hg : r.good
      · have hmany := Rec.many_of hg.1
        have hml := Rec.made_length hg
        have herr : er = 0 := HER.out.symm.trans (if_pos hg)
        have hmm : r.many = m := by rw [← hml]; exact HM.out
        have h7 : (r.pay.length : Int) ≤ 700 := by have := hg.1; omega
        have MO := Lib.hid (made_opens hok hg l)
        have hsecs : Hid (secs (r.pay.length : Int) = (m : Int)) := Lib.hid (by have := secs_range r.pay.length; unfold Rec.many at hmm; omega)
        have hm12 : m ≤ 12 := by omega
        subst herr
        have EMP := Lib.hid (emp_row w4 44 64)
        have SP := Lib.hid (SL.out.below ((Below.refl w4.heap.size w4).alloc (Nat.le_refl _) (.cells #[] 44)))
        have HBA : Hid (Below w4.heap.size w4 (w4.alloc (.cells #[] 44))) := Lib.hid ((Below.refl _ _).alloc (Nat.le_refl _) _)
        have SPs := SP.out.src
        rw [HM.out] at SPs
        have SPs := Lib.hid SPs
        have HNL : Hid ((sv r.made).flatten.length = m * 64) := Lib.hid (by rw [flat_len (sv_len (Rec.made_64 r))]; simp [sv, HM.out])
        have HBD : Hid ((0 + m) * 64 ≤ 140737488355328) := Lib.hid (by omega)
        have HON : Hid (∀ u ∈ (sv r.made).flatten, u.oneCell' = true) := Lib.hid (by rw [sv_flat]; exact bv_one _)
        have HVS : Hid ((Value.agg (bv noSec).toArray).cells.size = 64) := Lib.hid (by simp [Value.cells, bv, noSec])
        have HNL2 : Hid ((sv l).flatten.length = l.length * 64) := Lib.hid (by rw [flat_len (sv_len (SLM.out w1 (Below.refl _ _)).ok.len)]; simp [sv])
        have HBD2 : Hid ((m + l.length) * 64 ≤ 140737488355328) := Lib.hid (by omega)
        have HON2 : Hid (∀ u ∈ (sv l).flatten, u.oneCell' = true) := Lib.hid (by rw [sv_flat]; exact bv_one _)
        clear hg hmany hml hmm
        go_wp2_with (at_builtin; refine wpList_append_any rfl (.tmp 34) (.tmp 35) 22 rfl w4.heap.size 44 (.agg (bv noSec).toArray) 64 64 Try.underlying22 secInfo' HVS.out (by decide) (by decide) (.slice (some ⟨w4.heap.size, 0, none⟩) 0 0) 0 [] rfl EMP.out A6 m c6 (sv r.made).flatten rfl SPs.out HNL.out HON.out HBD.out HBA.out.size ?_)
        intro v5 w5 ho5 hg5 _ _
        try simp only [List.nil_append, Nat.zero_add] at ho5
        have B5 : Hid (Below w4.heap.size w4 w5) := Lib.hid (HBA.out.grown hg5 HBA.out.size (fun k hk => by cases hk; exact Nat.le_refl _))
        have HO5 := Lib.hid ho5
        obtain ⟨A7, c7, rfl, -⟩ := own_form ho5
        have SL5 := Lib.hid ((SLM.out w5 (B4.out.trans (B5.out.mono B4.out.size))).src)
        clear ho5 hg5 EMP HBA SP SPs
        go_wp2_with (at_builtin; refine wpList_append_any rfl (.tmp 36) (.tmp 37) 22 rfl w4.heap.size 44 (.agg (bv noSec).toArray) 64 64 Try.underlying22 secInfo' HVS.out (by decide) (by decide) (.slice A7 m c7) m _ rfl HO5.out B l.length d (sv l).flatten rfl SL5.out HNL2.out HON2.out HBD2.out B5.out.size ?_)
        intro v6 w6 ho6 hg6 _ _
        have B6 : Hid (Below w4.heap.size w4 w6) := Lib.hid (B5.out.grown hg6 B5.out.size (fun k hk => (HO5.out.lt k hk).1))
        obtain ⟨A8, c8, rfl, -⟩ := own_form ho6
        have e6 : (sv r.made).flatten ++ (sv l).flatten = (sv (r.made ++ l)).flatten := by simp [sv]
        have el : m + l.length = (r.made ++ l).length := by rw [List.length_append, HM.out]
        rw [e6] at ho6
        have HEL := Lib.hid el
        rw [el] at ho6
        have OP := fopen_any (r.made ++ l) A8 c8 w6 (SecsAt.of_own ho6 ((Rec.made_secs hok.small).append (SLM.out w1 (Below.refl _ _)).ok)) (by rw [← el]; omega)
        rw [← el] at OP
        have OP := Lib.hid OP
        clear ho6 hg6 e6 el HO5 SL5
        go_wp2_with fail
        refine OP.out.mono ?_
        rintro e w7 ⟨A9, c9, rfl, hs7, hb7⟩
        rw [MO.out.2.1] at hs7
        rw [MO.out.2.1, MO.out.2.2, decide_eq_true MO.out.1]
        have hmm2 : r.many = m := by
          have := hsecs.out
          have h2 := secs_range r.pay.length
          unfold Rec.many
          omega
        rw [hmm2]
        have B7 : Hid (Below w4.heap.size w4 w7) := Lib.hid (B6.out.trans (hb7.mono B6.out.size))
        have B7a := Lib.hid (B7.out.alloc B7.out.size (.cells #[.int .u64 r.seq, .int .u32 r.epoch, .slice A9 r.pay.length c9] 30))
        have HR7 := Lib.hid (heap_alloc_at w7 (.cells #[.int .u64 r.seq, .int .u32 r.epoch, .slice A9 r.pay.length c9] 30))
        have S7 := Lib.hid (hs7.same (w' := w7.alloc (.cells #[.int .u64 r.seq, .int .u32 r.epoch, .slice A9 r.pay.length c9] 30)) (fun ad had hne => heap_alloc_old _ _ (hs7.lt had hne)))
        clear hs7 hb7 hmm2 OP
        unfold recv
        go_upto_region 8 with fail
        generalize w7.alloc (.cells #[.int .u64 r.seq, .int .u32 r.epoch, .slice A9 r.pay.length c9] 30) = w8 at *
        have B8 : Hid (Below w1.heap.size w1 w8) := Lib.hid (B4.out.trans (B7a.out.mono B4.out.size))
        have SM := same_self r A9 A c9 c w8 hok.small S7.out (SA.out _ B8.out)
        unfold recv at SM
        have SM := Lib.hid SM
        obtain ⟨k0, k1, k2⟩ := CC.out w8 B8.out
        have a0 := cell_of_block HR7.out 0
        have a1 := cell_of_block HR7.out 1
        have a2 := cell_of_block HR7.out 2
        go_wp2_with fail
        refine SM.out.mono ?_
        rintro e w9 ⟨rfl, hb9⟩
        have B9 : Hid (Below w1.heap.size w1 w9) := Lib.hid (B8.out.trans (hb9.mono B8.out.size))
        clear hb9 k0 k1 k2 a0 a1 a2
        obtain ⟨k0, k1, k2⟩ := CC.out w9 B9.out
        go_wp2_with fail
        refine (size_any (r.pay.length : Int) (by omega) w9).mono ?_
        rintro e w10 ⟨rfl, rfl⟩
        rw [hsecs.out]
        go_wp2_with fail
        go_meet
        exact B9.out
      · have herr : er = 81 := HER.out.symm.trans (if_neg hg)
        subst herr
        go_wp2_with fail
        go_meet
        exact B4.out
    case rest =>
      have BC : Hid (Below w1.heap.size w1 wc) := Lib.hid hcut
      clear hcut SL B4 MK
      have LC := Lib.hid (SLM.out wc BC.out)
      go_wp2_with fail
      refine (fopen_any l B d wc LC.out (by omega)).mono ?_
      rintro e w3 ⟨A3, c3, rfl, hs3, hb3⟩
      have B3 : Hid (Below w1.heap.size w1 w3) := Lib.hid (BC.out.trans (hb3.mono BC.out.size))
      by_cases hI : isRec l
      · have RM := Lib.hid (rec_made LC.out.ok hI)
        rw [decide_eq_true hI]
        obtain ⟨q, hq⟩ : ∃ q, openedR l = q := ⟨_, rfl⟩
        rw [hq] at hs3 RM ⊢
        have HQN := Lib.hid RM.out.2.2.1
        have HML := Lib.hid (Rec.made_length RM.out.2.1)
        rw [HQN.out]
        have B3a := Lib.hid (B3.out.alloc B3.out.size (.cells #[.int .u64 q.seq, .int .u32 q.epoch, .slice A3 q.pay.length c3] 30))
        have HR3 := Lib.hid (heap_alloc_at w3 (.cells #[.int .u64 q.seq, .int .u32 q.epoch, .slice A3 q.pay.length c3] 30))
        have S3 := Lib.hid (hs3.same (w' := w3.alloc (.cells #[.int .u64 q.seq, .int .u32 q.epoch, .slice A3 q.pay.length c3] 30)) (fun ad had hne => heap_alloc_old _ _ (hs3.lt had hne)))
        have MK2 := make_any q RM.out.1 (by have := RM.out.2.2.2.2.2; omega) A3 c3 _ S3.out
        unfold recv at MK2
        have MK2 := Lib.hid MK2
        have HE0 : Hid (q.err = 0) := Lib.hid (if_pos RM.out.2.1)
        have hmle := RM.out.2.2.2.1
        have HTM : Hid (q.made = l.take q.many) := Lib.hid RM.out.2.2.2.2.1
        clear hs3 hb3 hI hq
        unfold recv
        go_upto_region 11 with fail
        generalize w3.alloc (.cells #[.int .u64 q.seq, .int .u32 q.epoch, .slice A3 q.pay.length c3] 30) = w5 at *
        have a0 := cell_of_block HR3.out 0
        have a1 := cell_of_block HR3.out 1
        have a2 := cell_of_block HR3.out 2
        go_wp2_with fail
        refine MK2.out.mono ?_
        rintro e w6 ⟨A4, c4, rfl, ho6, hb6⟩
        have B6 : Hid (Below w1.heap.size w1 w6) := Lib.hid (B3a.out.trans (hb6.mono B3a.out.size))
        have SK := Lib.hid (SecsAt.of_own ho6 (Rec.made_secs RM.out.1.small))
        have ST := Lib.hid ((SLM.out w6 B6.out).take (m := q.many) hmle)
        rw [← HTM.out] at ST
        have SS := samesecs_self q.made A4 B c4 d w6 SK.out ST.out made_few
        rw [HML.out] at SS
        have SS := Lib.hid SS
        rw [HE0.out, HML.out]
        have hmI : (q.many : Int) ≤ l.length := by omega
        have hmd : (q.many : Int) ≤ d := by omega
        generalize q.many = qm at *
        clear ho6 hb6 a0 a1 a2 HTM HML HQN
        go_wp2_with fail
        refine SS.out.mono ?_
        rintro e w7 ⟨rfl, hb7⟩
        have B7 : Hid (Below w1.heap.size w1 w7) := Lib.hid (B6.out.trans (hb7.mono B6.out.size))
        clear hb7
        go_wp2_with fail
        go_ret
        exact ⟨rfl, B0.out.trans (B7.out.mono B0.out.size)⟩
      · rw [openedN, if_neg hI, decide_eq_false hI]
        have B3a := Lib.hid (B3.out.alloc B3.out.size (.cells #[.int .u64 (openedR l).seq, .int .u32 (openedR l).epoch, .slice A3 (openedR l).pay.length c3] 30))
        clear hs3 hb3 hI
        unfold recv
        go_wp2_with fail
        go_ret
        exact ⟨rfl, B0.out.trans (B3a.out.mono B0.out.size)⟩
end Go.Proofs.Ytbpmakfgjdjmaaa.Frame
