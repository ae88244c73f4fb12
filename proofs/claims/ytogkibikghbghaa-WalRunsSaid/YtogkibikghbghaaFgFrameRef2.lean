/- Contracts of the document's SameSectors, Same and Open for the frame layer. Conditions: none beyond each lemma's own hypotheses. -/
import Derived.Test.YtogkibikghbghaaFgFrameRef
set_option linter.unusedVariables false
set_option linter.unusedSimpArgs false
namespace Go.Proofs.Ytogkibikghbghaa.Frame
open Go.RowKit Go.Proofs.Ytogkibikghbghaa.Fg Go.Proofs.Ytogkibikghbghaa.Crc Go.Proofs.Ytogkibikghbghaa.Disk

theorem byteSize : (Try.prog.info? 5).map (·.size) = some 1 := by kernel_rfl
theorem sec_eq (xs ys : List Int) (hx : xs.length = 64) (hy : ys.length = 64) (w : World) : (Op.equalIn 10000 77 (.agg (bv xs).toArray) (.agg (bv ys).toArray)).run Try.prog w = .ok (decide (xs = ys)) w := by
  obtain ⟨i, hi, -⟩ := Option.map_eq_some_iff.1 byteSize
  exact eq_bytes (P := Try.prog) 9998 secUnder Try.underlying5 hi (by kernel_rfl) (by kernel_rfl) xs ys hx hy w
theorem all_same : ∀ (a b : List (List Int)), a.length = b.length → (∀ j, j < a.length → a[j]? = b[j]?) → a = b
  | a, b, hl, h => List.ext_getElem? (fun i => by
      by_cases hi : i < a.length
      · exact h i hi
      · rw [List.getElem?_eq_none (by omega), List.getElem?_eq_none (by omega)])

set_option maxRecDepth 100000 in
set_option maxHeartbeats 2000000 in
theorem samesecs_any (a b : List (List Int)) (A B : Option Addr) (c d : Nat) (w : World) (ha : SecsAt w A c a) (hb : SecsAt w B d b) (hl : a.length ≤ 1000000) :
    Calls Try.prog 77 #[.slice A a.length c, .slice B b.length d] w fun e w' => e = .returned (.bool (decide (a = b))) ∧ Below w.heap.size w w' := by
  have hca := ha.src.cap
  have hcb := hb.src.cap
  by_cases hne : a.length = b.length
  · have HA := Lib.hid ha
    have HB := Lib.hid hb
    rw [← hne] at hcb ⊢
    have HNE := Lib.hid hne
    clear ha hb hne
    go_enter Try.func77, Try.ntmps77
    go_wp2_with fail
    go_loopg [13] a.length (fun k i wr => ∃ j : Nat, j + k = a.length ∧ i = .int .i64 j ∧ (∀ q, q < j → a[q]? = b[q]?) ∧ Below w.heap.size w wr)
    case atStart => exact ⟨0, Nat.zero_add _, rfl, fun q hq => by omega, Below.refl _ _⟩
    case round =>
      obtain ⟨j, hj, rfl, hall, hbel⟩ := hrel
      have HAL := Lib.hid hall
      have HBE := Lib.hid hbel
      clear hall hbel
      by_cases hlt : j < a.length
      · obtain ⟨b1, o1, rfl, hb1⟩ := HA.out.some_of (by omega)
        obtain ⟨b2, o2, rfl, hb2⟩ := HB.out.some_of (by have := HNE.out; omega)
        have hltb : j < b.length := by have := HNE.out; omega
        have hs : a[j]? = some a[j] := List.getElem?_eq_getElem hlt
        have ht : b[j]? = some b[j] := List.getElem?_eq_getElem hltb
        have R1 : Hid (wr.drew.rangeAt b1 (o1 + j * 64) (bv a[j])) := Lib.hid ((HA.out.below (Fg.below_dr HBE.out)).range hs)
        have R2 : Hid (wr.drew.rangeAt b2 (o2 + j * 64) (bv b[j])) := Lib.hid ((HB.out.below (Fg.below_dr HBE.out)).range ht)
        have h1 := HA.out.ok.len _ (List.getElem_mem hlt)
        have h2 := HB.out.ok.len _ (List.getElem_mem hltb)
        have Z1 : Hid ((Try.prog.info? 77).map (·.size) = some (bv a[j]).length) := Lib.hid (by rw [secSize, bv_length, h1])
        have Z2 : Hid ((Try.prog.info? 77).map (·.size) = some (bv b[j]).length) := Lib.hid (by rw [secSize, bv_length, h2])
        have EQ := Lib.hid (fun w => sec_eq a[j] b[j] h1 h2 w)
        have HS := Lib.hid hs
        have HT := Lib.hid ht
        clear hs ht h1 h2
        generalize a[j] = s at *
        generalize b[j] = t at *
        have hb2' : b2 < wr.heap.size := Nat.lt_of_lt_of_le hb2 HBE.out.size
        go_upto_region 6 with fail
        -- region fss6
        apply wp_region_words (fun w w' => w' = w) (fun w' => Hid (w' = wr.drew))
          [isVal _, isVal _, isVal _, isVal (.agg (bv s).toArray), isVal _, isVal _, isVal _, isVal (.agg (bv t).toArray), isVal (.bool (!(decide (s = t))))]
          [[], [], [0, 1], [2], [], [], [4, 5], [6], [3, 7]] [0, 1, 2, 3, 4, 5, 6, 7, 8] (by kernel_rfl) (by kernel_rfl) ?hF ?stand ?hI ?steps ?fin
        case hF => intro v; simp [fillFrom, Act.put]; rfl
        case stand =>
          repeat' (first | exact trivial | (refine And.intro ?_ ?_))
          all_goals first | (intro u w w' h _ _; exact h)
        case hI => exact Lib.hid rfl
        case steps =>
          refine And.intro ?_ ?_
          · intro v w' hI hd K hK
            simp only [allOf, word, List.getD_cons_zero, List.getD_cons_succ, isVal, and_true, true_and] at hd
            have HK := Lib.hid hK
            clear hK
            go_simp
            exact HK.out _ _ rfl hI (rfl)
          refine And.intro ?_ ?_
          · intro v w' hI hd K hK
            simp only [allOf, word, List.getD_cons_zero, List.getD_cons_succ, isVal, and_true, true_and] at hd
            have HK := Lib.hid hK
            clear hK
            go_simp
            exact HK.out _ _ rfl hI (rfl)
          refine And.intro ?_ ?_
          · intro v w' hI hd K hK
            simp only [allOf, word, List.getD_cons_zero, List.getD_cons_succ, isVal, and_true, true_and] at hd
            try simp only [hd] at hK
            have HK := Lib.hid hK
            clear hK
            go_simp
            exact HK.out _ _ rfl hI (rfl)
          refine And.intro ?_ ?_
          · intro v w' hI hd K hK
            simp only [allOf, word, List.getD_cons_zero, List.getD_cons_succ, isVal, and_true, true_and] at hd
            have HK := Lib.hid hK
            clear hK
            obtain rfl := hI.out
            rw [if_pos (by rfl)]
            refine wp_load_mid 77 (.tmp 18) rfl b1 (o1 + j * 64) hd (bv s) _ R1.out secUnder rfl Z1.out ?_
            exact HK.out _ _ rfl (Lib.hid rfl) rfl
          refine And.intro ?_ ?_
          · intro v w' hI hd K hK
            simp only [allOf, word, List.getD_cons_zero, List.getD_cons_succ, isVal, and_true, true_and] at hd
            have HK := Lib.hid hK
            clear hK
            go_simp
            exact HK.out _ _ rfl hI (rfl)
          refine And.intro ?_ ?_
          · intro v w' hI hd K hK
            simp only [allOf, word, List.getD_cons_zero, List.getD_cons_succ, isVal, and_true, true_and] at hd
            have HK := Lib.hid hK
            clear hK
            go_simp
            exact HK.out _ _ rfl hI (rfl)
          refine And.intro ?_ ?_
          · intro v w' hI hd K hK
            simp only [allOf, word, List.getD_cons_zero, List.getD_cons_succ, isVal, and_true, true_and] at hd
            try simp only [hd] at hK
            have HK := Lib.hid hK
            clear hK
            go_simp
            exact HK.out _ _ rfl hI (rfl)
          refine And.intro ?_ ?_
          · intro v w' hI hd K hK
            simp only [allOf, word, List.getD_cons_zero, List.getD_cons_succ, isVal, and_true, true_and] at hd
            have HK := Lib.hid hK
            clear hK
            obtain rfl := hI.out
            rw [if_pos (by rfl)]
            refine wp_load_mid 77 (.tmp 22) rfl b2 (o2 + j * 64) hd (bv t) _ R2.out secUnder rfl Z2.out ?_
            exact HK.out _ _ rfl (Lib.hid rfl) rfl
          refine And.intro ?_ ?_
          · intro v w' hI hd K hK
            simp only [allOf, word, List.getD_cons_zero, List.getD_cons_succ, isVal, and_true, true_and] at hd
            simp only [hd] at hK
            have q1 := EQ.out w'
            have HK := Lib.hid hK
            clear hK
            go_simp
            exact HK.out _ _ (by first | rfl | (simp; done) | trivial) hI rfl
          exact trivial
        intro v w6 hI hd
        simp only [allOf, word, List.getD_cons_zero, List.getD_cons_succ, isVal, and_true, true_and] at hd
        obtain ⟨h0, h1, h2, h3, h4, h5, h6, h7, h8⟩ := hd
        simp only [h0, h1, h2, h3, h4, h5, h6, h7, h8]
        clear h0 h1 h2 h3 h4 h5 h6 h7 h8
        -- end region fss6
        obtain rfl := hI.out
        by_cases hst : s = t
        · have hdt : (!(decide (s = t))) = false := by rw [decide_eq_true hst]; rfl
          rw [hdt]
          have HST := Lib.hid hst
          clear hst hdt
          go_wp2_with fail
          go_roundg (gk - 1)
          case measure => omega
          case rel => exact ⟨j + 1, by omega, by go_num, fun q hq => by
              by_cases h : q < j
              · exact HAL.out q h
              · obtain rfl : q = j := by omega
                rw [HS.out, HT.out, HST.out], Fg.below_dr HBE.out⟩
        · have hdt : (!(decide (s = t))) = true := by rw [decide_eq_false hst]; rfl
          rw [hdt]
          have HF : Hid (¬ a = b) := Lib.hid (fun h => hst (by
            have := HS.out
            rw [h, HT.out] at this
            injection this with this
            exact this.symm))
          clear hst hdt
          go_wp2_with fail
          go_ret
          exact ⟨by rw [decide_eq_false HF.out]; rfl, Fg.below_dr HBE.out⟩
      · obtain rfl : j = a.length := by omega
        have hab := all_same a b HNE.out HAL.out
        have HAB := Lib.hid hab
        clear hab
        go_wp2_with fail
        go_ret
        exact ⟨by rw [decide_eq_true HAB.out]; rfl, HBE.out⟩
  · have hd : ¬ ((a.length : Int) = (b.length : Int)) := by omega
    have hdb : ((a.length : Int) == (b.length : Int)) = false := beq_eq_false_iff_ne.2 hd
    have HF : Hid (¬ a = b) := Lib.hid (fun h => hne (by rw [h]))
    clear hd
    go_enter Try.func77, Try.ntmps77
    go_wp2_with fail
    go_ret
    exact ⟨by rw [decide_eq_false HF.out]; rfl, Below.refl _ _⟩

instance : DecidableEq Rec := fun a b => decidable_of_iff (a.seq = b.seq ∧ a.epoch = b.epoch ∧ a.pay = b.pay) ⟨fun h => Rec.eq h.1 h.2.1 h.2.2, fun h => by rw [h]; exact ⟨rfl, rfl, rfl⟩⟩
/-- Strings of bytes are told apart. -/
theorem same_any (a b : Rec) (A B : Option Addr) (c d : Nat) (w : World) (hsa : Small a.pay) (hsb : Small b.pay) (ha : Fg.Src w A a.pay.length c (bv a.pay)) (hb : Fg.Src w B b.pay.length d (bv b.pay)) :
    Calls Try.prog 18 #[recv A c a, recv B d b] w fun e w' => e = .returned (.bool (decide (a = b))) ∧ Below w.heap.size w w' := by
  have T1 : Hid (∀ w', Below w.heap.size w w' → (convert 37 9 (.slice A a.pay.length c)).run Try.prog w' = .ok (.string (strOfNums a.pay)) w') := Lib.hid (fun w' hw => str_run _ _ _ _ (ha.same fun ad had hne => hw.block _ (ha.lt had hne)))
  have T2 : Hid (∀ w', Below w.heap.size w w' → (convert 37 9 (.slice B b.pay.length d)).run Try.prog w' = .ok (.string (strOfNums b.pay)) w') := Lib.hid (fun w' hw => str_run _ _ _ _ (hb.same fun ad had hne => hw.block _ (hb.lt had hne)))
  have SB := Lib.hid (str_beq hsa hsb)
  have BB : Hid (Below w.heap.size w ((w.alloc (.cells #[.int .u64 a.seq, .int .u32 a.epoch, .slice A a.pay.length c] 40)).alloc (.cells #[.int .u64 b.seq, .int .u32 b.epoch, .slice B b.pay.length d] 40))) := Lib.hid (((Below.refl _ _).alloc (Nat.le_refl _) _).alloc (by simp) _)
  have t1 := T1.out _ BB.out
  have t2 := T2.out _ BB.out
  clear T1 T2 ha hb hsa hsb
  by_cases h1 : a.seq = b.seq
  · by_cases h2 : a.epoch = b.epoch
    · have q1 : (a.seq == b.seq) = true := beq_iff_eq.2 h1
      have q2 : (a.epoch == b.epoch) = true := beq_iff_eq.2 h2
      have HR : Hid (decide (a = b) = decide (a.pay = b.pay)) := Lib.hid (by
        by_cases h3 : a.pay = b.pay
        · rw [decide_eq_true h3, decide_eq_true (Rec.eq h1 h2 h3)]
        · rw [decide_eq_false h3, decide_eq_false (fun h => h3 (by rw [h]))])
      clear h1 h2
      unfold recv
      go_enter Try.func18, Try.ntmps18
      go_wp2_with fail
      go_ret
      exact ⟨by rw [HR.out, ← SB.out]; rfl, BB.out⟩
    · have q1 : (a.seq == b.seq) = true := beq_iff_eq.2 h1
      have q2 : (a.epoch == b.epoch) = false := beq_eq_false_iff_ne.2 h2
      have HR : Hid (decide (a = b) = false) := Lib.hid (decide_eq_false (fun h => h2 (by rw [h])))
      clear h1 h2
      unfold recv
      go_enter Try.func18, Try.ntmps18
      go_wp2_with fail
      go_ret
      exact ⟨by rw [HR.out]; rfl, BB.out⟩
  · have q1 : (a.seq == b.seq) = false := beq_eq_false_iff_ne.2 h1
    have HR : Hid (decide (a = b) = false) := Lib.hid (decide_eq_false (fun h => h1 (by rw [h])))
    clear h1
    unfold recv
    go_enter Try.func18, Try.ntmps18
    go_wp2_with fail
    go_ret
    exact ⟨by rw [HR.out]; rfl, BB.out⟩
end Go.Proofs.Ytogkibikghbghaa.Frame
