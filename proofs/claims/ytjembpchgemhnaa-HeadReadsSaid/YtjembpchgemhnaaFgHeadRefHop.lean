/- Contract of the document's Hop. Conditions: none beyond each lemma's own hypotheses. -/
import Derived.Test.YtjembpchgemhnaaFgHeadRefRead
import Derived.Test.YtjembpchgemhnaaFgHeadRefMake
set_option linter.unusedVariables false
set_option linter.unusedSimpArgs false
namespace Go.Proofs.Ytjembpchgemhnaa.Head
open Go.RowKit Go.Proofs.Ytjembpchgemhnaa.Fg

set_option maxRecDepth 100000 in
set_option maxHeartbeats 1000000 in
theorem refhop_any (l : List Int) (hb : Small l) (hn : l.length ≤ 100000) (A : Option Addr) (c : Nat) (w : World) (hs : Src w A l.length c (bv l)) :
    Calls Try.prog 20 #[.slice A l.length c] w (HopMade l w) := by
  have RD := Lib.hid (refread_any l hb hn A c w hs)
  clear hs
  go_enter Try.func20, Try.ntmps20
  go_wp2_with fail
  refine RD.out.mono ?_
  rintro e w1 ⟨A1, c1, A2, c2, rfl, o1, o2, hb1⟩
  have B1 := Lib.hid hb1
  clear hb1 RD
  by_cases hf : fault l = 0
  · have hr1 : readHd l = headOf l := if_pos hf
    have hr2 : readPl l = l.drop (hlen l) := if_pos hf
    rw [hr1] at o1
    rw [hr2] at o2
    rw [hr1, hr2, hf]
    have HM := Lib.hid (head_right hb hf)
    have HS := Lib.hid (head_small hb)
    have HP := Lib.hid (hb.drop (hlen l))
    have hol : (headOf l).opts.length ≤ 1000 := by
      rw [(read_eq hb hf).2]; have := (fault_zero hf).2.2.2.2; omega
    have hpl : (l.drop (hlen l)).length ≤ 1500 := by
      have := (fault_zero hf).2.1; rw [List.length_drop]; omega
    have ht : (headOf l).ttl = at0 l 8 := rfl
    have h08 := at0_bd hb 8
    rw [← ht] at h08
    have hE : at0 l 8 ≠ 0 → hopB l = packet (headOf l).dec (l.drop (hlen l)) ∧ hopE l = 0 := fun h => ⟨(if_pos hf).trans (if_neg h), (if_pos hf).trans (if_neg h)⟩
    have hE0 : at0 l 8 = 0 → hopB l = [] ∧ hopE l = 55 := fun h => ⟨(if_pos hf).trans (if_pos h), (if_pos hf).trans (if_pos h)⟩
    rw [← ht] at hE hE0
    clear hr1 hr2 ht hf
    generalize headOf l = h at *
    generalize l.drop (hlen l) = p at *
    have S1 : Hid (∀ w', Below w1.heap.size w1 w' → Src w' A1 h.opts.length c1 (bv h.opts)) := Lib.hid (fun w' hb => (Src.of_own o1).same fun ad had hne => hb.block _ ((Src.of_own o1).lt had hne))
    have S2 : Hid (∀ w', Below w1.heap.size w1 w' → Src w' A2 p.length c2 (bv p)) := Lib.hid (fun w' hb => (Src.of_own o2).same fun ad had hne => hb.block _ ((Src.of_own o2).lt had hne))
    clear o1 o2
    have BL : Hid (Below w1.heap.size w1 (w1.alloc (.cells (hv h A1 c1) 26))) := Lib.hid ((Below.refl _ _).alloc (Nat.le_refl _) _)
    have BK := Lib.hid (heap_alloc_at w1 (.cells (hv h A1 c1) 26))
    simp only [hv] at BL BK ⊢
    go_upto_region 2 with fail
    generalize w1.alloc (.cells _ 26) = w2 at *
    have k3 := (cell_of_block BK.out 3).trans (show (hv h A1 c1)[3]? = some (.int .i64 h.ttl) from rfl)
    have f3 := free_of_block BK.out 3
    have hlt := block_lt BK.out
    by_cases ht0 : h.ttl = 0
    · rw [ht0] at k3
      obtain ⟨e1, e2⟩ := hE0 ht0
      go_wp2_with fail
      exact bodyPost_ret (v := .tuple #[.slice none 0 0, .int .i64 55]) (by simp [results, Try.results20, go_sem]) rfl (HopMade.no e1 e2 (B1.out.trans (BL.out.mono B1.out.size)))
    · obtain ⟨e1, e2⟩ := hE ht0
      have hw : IntKind.i64.wrap (h.ttl - 1) = h.ttl - 1 := by rw [IntKind.wrap_i64]; omega
      have BK3 : Hid ((w2.setCell ⟨w1.heap.size, 3, none⟩ (.int .i64 (h.ttl - 1))).heap[w1.heap.size]? = some (.cells (hv h.dec A1 c1) 26)) := Lib.hid (hset_at w2 w1.heap.size 3 (.int .i64 (h.ttl - 1)) BK.out)
      have BL3 : Hid (Below w1.heap.size w1 (w2.setCell ⟨w1.heap.size, 3, none⟩ (.int .i64 (h.ttl - 1)))) := Lib.hid (BL.out.setCell (p := ⟨w1.heap.size, 3, none⟩) (Nat.le_refl _) _)
      have HSZ : Hid ((hv h.dec A1 c1).size = 14) := Lib.hid rfl
      have MK := Lib.hid (fun w' hb => refmake_any h.dec HS.out.dec A1 c1 p HP.out A2 c2 w' (S1.out w' hb) (S2.out w' hb) (by show h.opts.length ≤ _; omega) (by omega))
      have HD := Lib.hid (dec_makes HM.out ht0)
      go_upto_region 7 with fail
      clear k3 f3 hw
      generalize w2.setCell ⟨w1.heap.size, 3, none⟩ (.int .i64 (h.ttl - 1)) = w3 at *
      generalize hv h.dec A1 c1 = H at *
      go_wp2_with (refine wpList_load_block rfl 26 (.tmp 4) rfl w1.heap.size rfl H 26 (0, 0) BK3.out _ Try.underlying26 rfl (by rw [HSZ.out]; kernel_rfl) ?_)
      go_wp2_with fail
      refine (MK.out w3 BL3.out).mono ?_
      rintro e w4 ⟨A4, c4, rfl, o4, hb4⟩
      rw [HD.out, if_pos rfl, if_pos rfl, ← e1] at o4
      rw [HD.out, if_pos rfl, if_pos rfl, ← e1]
      have HB4 : Hid (Below w.heap.size w w4) := Lib.hid (B1.out.trans ((BL3.out.trans (hb4.mono BL3.out.size)).mono B1.out.size))
      have HO4 := Lib.hid (own_base o4 (Nat.le_trans B1.out.size BL3.out.size))
      clear hb4 o4
      go_wp2_with fail
      exact bodyPost_ret (v := .tuple #[.slice A4 (hopB l).length c4, .int .i64 0]) (by simp [results, Try.results20, go_sem, e1]) rfl ⟨A4, c4, by rw [e2], HO4.out, HB4.out⟩
  · have hr1 : readHd l = noHd := if_neg hf
    have hr2 : readPl l = [] := if_neg hf
    have hE : hopB l = [] ∧ hopE l = fault l := ⟨if_neg hf, if_neg hf⟩
    have hf' : (fault l != 0) = true := by rw [bne_iff_ne]; exact hf
    rw [hr1, hr2]
    clear o1 o2 hr1 hr2 hf
    generalize fault l = f at *
    simp only [hv, noHd, List.length_nil]
    go_wp2_with fail
    exact bodyPost_ret (v := .tuple #[.slice none 0 0, .int .i64 f]) (by simp [results, Try.results20, go_sem]) rfl (HopMade.no hE.1 hE.2 (B1.out.alloc B1.out.size _))
end Go.Proofs.Ytjembpchgemhnaa.Head
