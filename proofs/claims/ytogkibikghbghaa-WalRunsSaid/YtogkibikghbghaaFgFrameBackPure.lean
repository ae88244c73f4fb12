/- The plain law of frames there and back. No program in sight. -/
import Derived.Test.YtogkibikghbghaaFgFrameArgs
set_option linter.unusedVariables false
namespace Go.Proofs.Ytogkibikghbghaa.Frame
open Go.RowKit Go.Proofs.Ytogkibikghbghaa.Fg Go.Proofs.Ytogkibikghbghaa.Crc Go.Proofs.Ytogkibikghbghaa.Disk

theorem made_form {r : Rec} (hg : r.good) (more : List (List Int)) : ∃ REST, (r.made ++ more).flatten = be 2 (r.pay.length : Int) ++ (be 8 r.seq ++ (be 4 r.epoch ++ (r.pay ++ REST))) := by
  refine ⟨tailB (sumOf r.plain) ++ (List.replicate (64 * r.many - r.bytes.length) 0 ++ more.flatten), ?_⟩
  rw [List.flatten_append, Rec.made_flat hg]
  conv => lhs; rw [show r.bytes = (be 2 (r.pay.length : Int) ++ (be 8 r.seq ++ be 4 r.epoch) ++ r.pay) ++ tailB (sumOf r.plain) from rfl]
  simp only [List.append_assoc]
  rfl
/-- What a record's sectors say, whatever is behind. -/
theorem made_said {r : Rec} (hok : r.ok) (hg : r.good) (more : List (List Int)) : saidSize (r.made ++ more) = r.pay.length ∧ said (r.made ++ more) = r ∧ saidMany (r.made ++ more) = r.many := by
  obtain ⟨REST, hF⟩ := made_form hg more
  have h1 : saidSize (r.made ++ more) = r.pay.length := by
    unfold saidSize
    rw [hF, List.take_left' (be_length 2 _), val_be 2 _ (by omega) (by have := hg.1; omega)]
  have d2 : (r.made ++ more).flatten.drop 2 = be 8 r.seq ++ (be 4 r.epoch ++ (r.pay ++ REST)) := by rw [hF, List.drop_left' (be_length 2 _)]
  have d10 : (r.made ++ more).flatten.drop 10 = be 4 r.epoch ++ (r.pay ++ REST) := by
    rw [show 10 = 2 + 8 from rfl, ← List.drop_drop, d2, List.drop_left' (be_length 8 _)]
  have d14 : (r.made ++ more).flatten.drop 14 = r.pay ++ REST := by
    rw [show 14 = 10 + 4 from rfl, ← List.drop_drop, d10, List.drop_left' (be_length 4 _)]
  refine ⟨h1, Rec.eq ?_ ?_ ?_, ?_⟩
  · show val (((r.made ++ more).flatten.drop 2).take 8) = _
    rw [d2, List.take_left' (be_length 8 _), val_be 8 _ hok.seq0 (by have := hok.seq1; omega)]
  · show val (((r.made ++ more).flatten.drop 10).take 4) = _
    rw [d10, List.take_left' (be_length 4 _), val_be 4 _ hok.epoch0 (by have := hok.epoch1; omega)]
  · show ((r.made ++ more).flatten.drop 14).take (saidSize (r.made ++ more)).toNat = _
    rw [h1, d14, List.take_left' (by omega)]
  · unfold saidMany
    rw [h1]
    have := secs_range (r.pay.length : Int)
    unfold Rec.many
    omega
theorem made_opens {r : Rec} (hok : r.ok) (hg : r.good) (more : List (List Int)) : isRec (r.made ++ more) ∧ openedR (r.made ++ more) = r ∧ openedN (r.made ++ more) = r.many := by
  obtain ⟨h1, h2, h3⟩ := made_said hok hg more
  have hm := Rec.many_of hg.1
  have hl := Rec.made_length hg
  have hI : isRec (r.made ++ more) := by
    refine ⟨by rw [List.length_append, hl]; omega, by rw [h3]; omega, by rw [h3, List.length_append, hl]; omega, by rw [h2]; exact hg.2, ?_⟩
    rw [h2, h3, Int.toNat_natCast, List.take_left' hl]
  exact ⟨hI, by rw [openedR, if_pos hI, h2], by rw [openedN, if_pos hI, h3]⟩
theorem made_opens0 {r : Rec} (hok : r.ok) (hg : r.good) : isRec r.made ∧ openedR r.made = r ∧ openedN r.made = r.many := by
  have := made_opens hok hg []
  rwa [List.append_nil] at this
/-- With fewer sectors it is not opened. -/
theorem made_short {r : Rec} (hok : r.ok) (hg : r.good) {k : Nat} (hk : k < r.many) : ¬ isRec (r.made.take k) := by
  intro h
  have hm := Rec.many_of hg.1
  have hl := Rec.made_length hg
  have hk0 : 0 < k := by have := h.1; rw [List.length_take, hl] at this; omega
  have e : saidSize (r.made.take k) = saidSize r.made := by
    unfold saidSize
    congr 1
    have e1 : r.made.flatten = (r.made.take k).flatten ++ (r.made.drop k).flatten := by rw [← List.flatten_append, List.take_append_drop]
    have e2 := flat_length (k := 64) (a := r.made.take k) (fun s hs => Rec.made_64 r s (List.mem_of_mem_take hs))
    rw [List.length_take, hl] at e2
    rw [e1, List.take_append, show 2 - (r.made.take k).flatten.length = 0 by omega, List.take_zero, List.append_nil]
  have h3 := h.2.2.1
  unfold saidMany at h3
  rw [e] at h3
  have h4 := (made_said hok hg []).2.2
  rw [List.append_nil] at h4
  unfold saidMany at h4
  rw [h4, List.length_take, hl] at h3
  omega
/-- What is opened is made again. -/
theorem rec_made {l : List (List Int)} (hs : Secs l) (h : isRec l) : (openedR l).ok ∧ (openedR l).good ∧ openedN l = (openedR l).many ∧ (openedR l).many ≤ l.length ∧ (openedR l).made = l.take (openedR l).many ∧ (openedR l).pay.length ≤ 700 := by
  obtain ⟨n, m, S⟩ := said_ok hs h.2.1 h.2.2.1
  have e1 : openedR l = said l := if_pos h
  have e2 : openedN l = saidMany l := if_pos h
  have hfl := flat_length hs.len
  have hm := S.m_eq
  have hle := S.m_le
  have hg : (said l).good := ⟨by rw [S.pay_len]; exact S.le, h.2.2.2.1⟩
  have hmm : (said l).many = m := by rw [Rec.many_of hg.1, S.pay_len, hm]
  rw [e1, e2, hmm]
  refine ⟨said_rec_ok hs (by omega), hg, S.many, hle, ?_, hg.1⟩
  have := h.2.2.2.2
  rw [S.many] at this
  simpa using this
theorem noRec_ok : noRec.ok := ⟨by decide, by decide, by decide, by decide, fun x hx => by cases hx⟩
theorem openedR_ok {l : List (List Int)} (hs : Secs l) : (openedR l).ok ∧ (openedR l).pay.length ≤ 700 := by
  by_cases h : isRec l
  · exact ⟨(rec_made hs h).1, (rec_made hs h).2.2.2.2.2⟩
  · rw [openedR, if_neg h]; exact ⟨noRec_ok, by decide⟩
end Go.Proofs.Ytogkibikghbghaa.Frame
