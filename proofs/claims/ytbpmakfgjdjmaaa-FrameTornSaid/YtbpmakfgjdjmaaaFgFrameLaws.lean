/- The walks of the laws FrameMakes and FrameOpens. There are no conditions beyond each lemma's own hypotheses. -/
import Derived.Test.YtbpmakfgjdjmaaaFgFrameAlive
set_option linter.unusedVariables false
set_option linter.unusedSimpArgs false
namespace Go.Proofs.Ytbpmakfgjdjmaaa.Frame
open Go.RowKit Go.Proofs.Ytbpmakfgjdjmaaa.Fg Go.Proofs.Ytbpmakfgjdjmaaa.Crc Go.Proofs.Ytbpmakfgjdjmaaa.Disk

theorem made_few {r : Rec} : r.made.length ≤ 1000000 := by
  by_cases h : r.good
  · rw [Rec.made_length h, Rec.many_of h.1]; have := h.1; omega
  · rw [Rec.made_nil h]; simp
theorem samesecs_self (a : List (List Int)) (A B : Option Addr) (c d : Nat) (w : World) (ha : SecsAt w A c a) (hb : SecsAt w B d a) (hl : a.length ≤ 1000000) :
    Calls Try.prog 14 #[.slice A a.length c, .slice B a.length d] w fun e w' => e = .returned (.bool true) ∧ Below w.heap.size w w' := by
  refine (samesecs_any a a A B c d w ha hb hl).mono ?_
  rintro e w' ⟨rfl, h⟩
  exact ⟨by rw [decide_eq_true rfl], h⟩
theorem same_self (a : Rec) (A B : Option Addr) (c d : Nat) (w : World) (hsa : Small a.pay) (ha : Fg.Src w A a.pay.length c (bv a.pay)) (hb : Fg.Src w B a.pay.length d (bv a.pay)) :
    Calls Try.prog 17 #[recv A c a, recv B d a] w fun e w' => e = .returned (.bool true) ∧ Below w.heap.size w w' := by
  refine (same_any a a A B c d w hsa hsa ha hb).mono ?_
  rintro e w' ⟨rfl, h⟩
  exact ⟨by rw [decide_eq_true rfl], h⟩
theorem emp_row (w : World) (e : TypeId) (size : Nat) : (w.alloc (.cells #[] e)).ownsRow w.heap.size e size (.slice (some ⟨w.heap.size, 0, none⟩) 0 0) 0 [] := by
  have := World.ownsRow_made (e := e) (size := size) w #[] 0 (Nat.le_refl _) (Nat.zero_le _) (by simp)
  simpa using this

set_option maxRecDepth 100000 in
set_option maxHeartbeats 2000000 in
theorem makes_any (r : Rec) (hok : r.ok) (A : Option Addr) (c : Nat) (n : Int) (hn : (Lit.int .i64 n).wf = true) (W : World) (hs : Fg.Src W A r.pay.length c (bv r.pay)) (hrb : r.pay.length ≤ reachBytes) :
    Calls Try.prog 4 #[recv A c r, .int .i64 n] W fun e w' => e = .returned (.bool true) ∧ Below W.heap.size W w' := by
  have hnb : -9223372036854775808 ≤ n ∧ n ≤ 9223372036854775807 := by simpa [Lit.wf, IntKind.min, IntKind.max, IntKind.signed, IntKind.bits] using hn
  have S0 := Lib.hid hs
  have SZ := Lib.hid (fun w => size_any n hnb w)
  have RSZ := Lib.hid (fun w => refsize_any n hnb w)
  clear hs hnb
  unfold recv
  go_enter Try.func4, Try.ntmps4
  have HG0 : Hid ((W.alloc (.cells #[.int .u64 r.seq, .int .u32 r.epoch, .slice A r.pay.length c] 30)).heap[W.heap.size]? = some (.cells #[.int .u64 r.seq, .int .u32 r.epoch, .slice A r.pay.length c] 30)) := Lib.hid (heap_alloc_at W _)
  have B0 : Hid (Below W.heap.size W (W.alloc (.cells #[.int .u64 r.seq, .int .u32 r.epoch, .slice A r.pay.length c] 30))) := Lib.hid ((Below.refl _ _).alloc (Nat.le_refl _) _)
  go_upto_region 1 with fail
  obtain ⟨w1, hw1⟩ : ∃ w1, W.alloc (.cells #[.int .u64 r.seq, .int .u32 r.epoch, .slice A r.pay.length c] 30) = w1 := ⟨_, rfl⟩
  rw [hw1] at HG0 B0 ⊢
  clear hw1
  have hg := block_lt HG0.out
  have CC : Hid (∀ w', Below w1.heap.size w1 w' → w'.cell? ⟨W.heap.size, 0, none⟩ = some (.int .u64 r.seq) ∧ w'.cell? ⟨W.heap.size, 1, none⟩ = some (.int .u32 r.epoch) ∧ w'.cell? ⟨W.heap.size, 2, none⟩ = some (.slice A r.pay.length c)) :=
    Lib.hid (fun w' hb => ⟨(hb.cell (p := ⟨W.heap.size, 0, none⟩) hg).trans (cell_of_block HG0.out 0), (hb.cell (p := ⟨W.heap.size, 1, none⟩) hg).trans (cell_of_block HG0.out 1), (hb.cell (p := ⟨W.heap.size, 2, none⟩) hg).trans (cell_of_block HG0.out 2)⟩)
  have SA : Hid (∀ w', Below w1.heap.size w1 w' → Fg.Src w' A r.pay.length c (bv r.pay)) := Lib.hid (fun w' hb => S0.out.same fun ad had hne => ((B0.out.trans (hb.mono B0.out.size)).block _ (S0.out.lt had hne)))
  clear hg
  go_wp2_with fail
  refine (alive_any w1).mono ?_
  rintro e w2 ⟨rfl, hb2⟩
  have B2 := Lib.hid hb2
  obtain ⟨k0, k1, k2⟩ := CC.out w2 hb2
  clear hb2
  by_cases hbig : 2000 < r.pay.length
  · have hbI : (2000 : Int) < r.pay.length := by omega
    go_wp2_with fail
    go_ret
    exact ⟨rfl, B0.out.trans (B2.out.mono B0.out.size)⟩
  · have hbI : ¬ ((2000 : Int) < r.pay.length) := by omega
    have hlI : (r.pay.length : Int) ≤ 2000 := by omega
    have MK : Hid (∀ A c w', Fg.Src w' A r.pay.length c (bv r.pay) → Calls Try.prog 9 #[.agg #[.int .u64 r.seq, .int .u32 r.epoch, .slice A r.pay.length c]] w' (MadeE r w')) := Lib.hid (fun A c w' h => make_any r hok (by omega) A c w' h)
    have RMK : Hid (∀ A c w', Fg.Src w' A r.pay.length c (bv r.pay) → Calls Try.prog 13 #[.agg #[.int .u64 r.seq, .int .u32 r.epoch, .slice A r.pay.length c]] w' (MadeE r w')) := Lib.hid (fun A c w' h => refmake_any r hok (by omega) A c w' h)
    have EMP := Lib.hid (emp_row w2 5 1)
    obtain ⟨e0, e1, e2⟩ := CC.out _ (B2.out.alloc B2.out.size (.cells #[] 5))
    have SP := Lib.hid (SA.out _ (B2.out.alloc B2.out.size (.cells #[] 5)))
    have HBA : Hid (Below w2.heap.size w2 (w2.alloc (.cells #[] 5))) := Lib.hid ((Below.refl _ _).alloc (Nat.le_refl _) _)
    have HNL : Hid ((bv r.pay).length = r.pay.length * 1) := Lib.hid (by rw [bv_length]; omega)
    have HBD : Hid ((0 + r.pay.length) * 1 ≤ 140737488355328) := Lib.hid (by omega)
    clear hbig
    go_wp2_with (at_builtin; refine wpList_append_any rfl (.tmp 16) (.tmp 18) 28 rfl w2.heap.size 5 (.int .u8 0) 1 1 Try.underlying28 info_u8 rfl (by decide) (by decide) (.slice (some ⟨w2.heap.size, 0, none⟩) 0 0) 0 [] rfl EMP.out A r.pay.length c (bv r.pay) rfl SP.out HNL.out (bv_one _) HBD.out HBA.out.size ?_)
    intro v3 w3 ho3 hg3 _ _
    try simp only [List.nil_append, Nat.zero_add] at ho3
    have B3 : Hid (Below w1.heap.size w1 w3) := Lib.hid (B2.out.trans ((HBA.out.grown hg3 HBA.out.size (fun k hk => by cases hk; exact Nat.le_refl _)).mono B2.out.size))
    obtain ⟨A5, c5, rfl, -⟩ := own_form ho3
    have S5 := Lib.hid (Fg.Src.of_own ho3)
    clear ho3 hg3 EMP HBA SP k0 k1 k2 e0 e1 e2
    obtain ⟨k0, k1, k2⟩ := CC.out w3 B3.out
    go_wp2_with fail
    refine (MK.out A c w3 (SA.out _ B3.out)).mono ?_
    rintro e w4 ⟨A6, c6, rfl, ho4, hb4⟩
    have B4 : Hid (Below w1.heap.size w1 w4) := Lib.hid (B3.out.trans (hb4.mono B3.out.size))
    have S54 := Lib.hid (S5.out.same (w' := w4) (fun ad had hne => hb4.block _ (S5.out.lt had hne)))
    have SL := Lib.hid (SecsAt.of_own ho4 (Rec.made_secs hok.small))
    clear ho4 hb4 k0 k1 k2
    obtain ⟨k0, k1, k2⟩ := CC.out w4 B4.out
    go_wp2_with fail
    refine (RMK.out A5 c5 w4 S54.out).mono ?_
    rintro e w5 ⟨A7, c7, rfl, ho5, hb5⟩
    have B5 : Hid (Below w1.heap.size w1 w5) := Lib.hid (B4.out.trans (hb5.mono B4.out.size))
    have S55 := Lib.hid (S54.out.same (w' := w5) (fun ad had hne => hb5.block _ (S54.out.lt had hne)))
    have SK := Lib.hid (SecsAt.of_own ho5 (Rec.made_secs hok.small))
    have SS := Lib.hid (samesecs_self r.made A6 A7 c6 c7 w5 (SL.out.below hb5) SK.out made_few)
    clear ho5 hb5 k0 k1 k2
    go_wp2_with fail
    refine SS.out.mono ?_
    rintro e w6 ⟨rfl, hb6⟩
    have B6 : Hid (Below w1.heap.size w1 w6) := Lib.hid (B5.out.trans (hb6.mono B5.out.size))
    have S56 := S55.out.same (w' := w6) (fun ad had hne => hb6.block _ (S55.out.lt had hne))
    have T1 := str_run r.pay A5 c5 w6 S56
    have T2 := str_run r.pay A c w6 (SA.out _ B6.out)
    obtain ⟨k0, k1, k2⟩ := CC.out w6 B6.out
    clear hb6 S56
    go_wp2_with fail
    refine (SZ.out _).mono ?_
    rintro e w7 ⟨rfl, rfl⟩
    go_wp2_with fail
    refine (RSZ.out _).mono ?_
    rintro e w8 ⟨rfl, rfl⟩
    generalize secs n = sn at *
    go_wp2_with fail
    go_ret
    exact ⟨rfl, B0.out.trans (B6.out.mono B0.out.size)⟩

set_option maxRecDepth 100000 in
set_option maxHeartbeats 2000000 in
theorem opens_any (l : List (List Int)) (A : Option Addr) (c : Nat) (W : World) (hs : SecsAt W A c l) :
    Calls Try.prog 5 #[.slice A l.length c] W fun e w' => e = .returned (.bool true) ∧ Below W.heap.size W w' := by
  have HS := Lib.hid hs
  clear hs
  go_enter Try.func5, Try.ntmps5
  go_wp2_with fail
  refine (alive_any W).mono ?_
  rintro e w2 ⟨rfl, hb2⟩
  have B2 := Lib.hid hb2
  clear hb2
  by_cases hbig : 40 < l.length
  · have hbI : (40 : Int) < l.length := by omega
    go_wp2_with fail
    go_ret
    exact ⟨rfl, B2.out⟩
  · have hbI : ¬ ((40 : Int) < l.length) := by omega
    have EMP := Lib.hid (emp_row w2 44 64)
    have SP := Lib.hid (HS.out.below (B2.out.alloc B2.out.size (.cells #[] 44)))
    have HBA : Hid (Below w2.heap.size w2 (w2.alloc (.cells #[] 44))) := Lib.hid ((Below.refl _ _).alloc (Nat.le_refl _) _)
    have HNL : Hid ((sv l).flatten.length = l.length * 64) := Lib.hid (by rw [flat_len (sv_len HS.out.ok.len)]; simp [sv])
    have HBD : Hid ((0 + l.length) * 64 ≤ 140737488355328) := Lib.hid (by omega)
    have HON : Hid (∀ u ∈ (sv l).flatten, u.oneCell' = true) := Lib.hid (by rw [sv_flat]; exact bv_one _)
    have HVS : Hid ((Value.agg (bv noSec).toArray).cells.size = 64) := Lib.hid (by simp [Value.cells, bv, noSec])
    clear hbig
    go_wp2_with (at_builtin; refine wpList_append_any rfl (.tmp 15) (.tmp 16) 22 rfl w2.heap.size 44 (.agg (bv noSec).toArray) 64 64 Try.underlying22 secInfo' HVS.out (by decide) (by decide) (.slice (some ⟨w2.heap.size, 0, none⟩) 0 0) 0 [] rfl EMP.out A l.length c (sv l).flatten rfl SP.out.src HNL.out HON.out HBD.out HBA.out.size ?_)
    intro v3 w3 ho3 hg3 _ _
    try simp only [List.nil_append, Nat.zero_add] at ho3
    have B3 : Hid (Below W.heap.size W w3) := Lib.hid (B2.out.trans ((HBA.out.grown hg3 HBA.out.size (fun k hk => by cases hk; exact Nat.le_refl _)).mono B2.out.size))
    obtain ⟨A5, c5, rfl, -⟩ := own_form ho3
    have S5 := Lib.hid (SecsAt.of_own ho3 HS.out.ok)
    clear ho3 hg3 EMP HBA SP
    go_wp2_with fail
    refine (fopen_any l A5 c5 w3 S5.out (by omega)).mono ?_
    rintro e w4 ⟨A6, c6, rfl, hs4, hb4⟩
    have B4 : Hid (Below W.heap.size W w4) := Lib.hid (B3.out.trans (hb4.mono B3.out.size))
    have S4 := Lib.hid hs4
    have HR4 := Lib.hid (heap_alloc_at w4 (.cells #[.int .u64 (openedR l).seq, .int .u32 (openedR l).epoch, .slice A6 (openedR l).pay.length c6] 30))
    have B4a := Lib.hid (B4.out.alloc B4.out.size (.cells #[.int .u64 (openedR l).seq, .int .u32 (openedR l).epoch, .slice A6 (openedR l).pay.length c6] 30))
    have S4a := Lib.hid (S4.out.same (w' := w4.alloc (.cells #[.int .u64 (openedR l).seq, .int .u32 (openedR l).epoch, .slice A6 (openedR l).pay.length c6] 30)) (fun ad had hne => heap_alloc_old _ _ (S4.out.lt had hne)))
    clear hs4 hb4 S4
    unfold recv
    go_upto_region 6 with fail
    generalize w4.alloc (.cells #[.int .u64 (openedR l).seq, .int .u32 (openedR l).epoch, .slice A6 (openedR l).pay.length c6] 30) = w5 at *
    go_wp2_with fail
    refine (refopen_any l A c w5 (HS.out.below B4a.out) (by omega)).mono ?_
    rintro e w6 ⟨A7, c7, rfl, hs6, hb6⟩
    have B6 : Hid (Below W.heap.size W w6) := Lib.hid (B4a.out.trans (hb6.mono B4a.out.size))
    have HR6 := Lib.hid ((hb6.block _ (block_lt HR4.out)).trans HR4.out)
    have S6 := Lib.hid hs6
    have S46 := Lib.hid (S4a.out.same (w' := w6) (fun ad had hne => hb6.block _ (S4a.out.lt had hne)))
    have HR7 := Lib.hid (heap_alloc_at w6 (.cells #[.int .u64 (openedR l).seq, .int .u32 (openedR l).epoch, .slice A7 (openedR l).pay.length c7] 30))
    have HR67 := Lib.hid ((heap_alloc_old w6 (.cells #[.int .u64 (openedR l).seq, .int .u32 (openedR l).epoch, .slice A7 (openedR l).pay.length c7] 30) (block_lt HR6.out)).trans HR6.out)
    have B7 := Lib.hid (B6.out.alloc B6.out.size (.cells #[.int .u64 (openedR l).seq, .int .u32 (openedR l).epoch, .slice A7 (openedR l).pay.length c7] 30))
    have S67 := Lib.hid (S6.out.same (w' := w6.alloc (.cells #[.int .u64 (openedR l).seq, .int .u32 (openedR l).epoch, .slice A7 (openedR l).pay.length c7] 30)) (fun ad had hne => heap_alloc_old _ _ (S6.out.lt had hne)))
    have S47 := Lib.hid (S46.out.same (w' := w6.alloc (.cells #[.int .u64 (openedR l).seq, .int .u32 (openedR l).epoch, .slice A7 (openedR l).pay.length c7] 30)) (fun ad had hne => heap_alloc_old _ _ (S46.out.lt had hne)))
    clear hs6 hb6 S6 S46 HR4 HR6
    unfold recv
    go_upto_region 7 with fail
    generalize w6.alloc (.cells #[.int .u64 (openedR l).seq, .int .u32 (openedR l).epoch, .slice A7 (openedR l).pay.length c7] 30) = w8 at *
    have SM := same_self (openedR l) A6 A7 c6 c7 w8 (openedR_ok HS.out.ok).1.small S47.out S67.out
    unfold recv at SM
    have SM := Lib.hid SM
    have a0 := cell_of_block HR67.out 0
    have a1 := cell_of_block HR67.out 1
    have a2 := cell_of_block HR67.out 2
    have b0 := cell_of_block HR7.out 0
    have b1 := cell_of_block HR7.out 1
    have b2 := cell_of_block HR7.out 2
    generalize openedN l = on at *
    generalize decide (isRec l) = ok at *
    go_wp2_with fail
    refine SM.out.mono ?_
    rintro e w9 ⟨rfl, hb9⟩
    have B9 : Hid (Below W.heap.size W w9) := Lib.hid (B7.out.trans (hb9.mono B7.out.size))
    clear hb9
    go_wp2_with fail
    go_ret
    exact ⟨rfl, B9.out⟩
end Go.Proofs.Ytbpmakfgjdjmaaa.Frame
