/- The walk of the law HeadReads of floodgate's head layer. There are no conditions. -/
import Derived.Test.YtjembpchgemhnaaFgHeadOpen
import Derived.Test.YtjembpchgemhnaaFgHeadHop
import Derived.Test.YtjembpchgemhnaaFgOwn2
import Derived.Test.YtjembpchgemhnaaFgHeadRefHop
set_option linter.unusedVariables false
set_option linter.unusedSimpArgs false
namespace Go.Proofs.Ytjembpchgemhnaa.Head
open Go.RowKit Go.Proofs.Ytjembpchgemhnaa.Fg Go.ChangeShapes Go.WideShapes Go.ChangeAt

set_option maxRecDepth 100000 in
set_option maxHeartbeats 4000000 in
theorem reads_any (l : List Int) (hb : Small l) (A : Option Addr) (c : Nat) (W : World) (hs : Src W A l.length c (bv l)) (hn : l.length ≤ reachBytes) :
    Calls Try.prog 9 #[.slice A l.length c] W fun e w' => e = .returned (.bool true) ∧ Below W.heap.size W w' := by
  have HB := Lib.hid hb
  have SA : Hid (∀ w', Below W.heap.size W w' → Src w' A l.length c (bv l)) := Lib.hid (fun w' hb => hs.same fun ad had hne => hb.block _ (hs.lt had hne))
  clear hb hs
  go_enter Try.func9, Try.ntmps9
  go_wp2_with fail
  refine (alive_any W).mono ?_
  rintro e w0 ⟨rfl, hb0⟩
  have hs0 := hb0.size
  have HB0 := Lib.hid hb0
  clear hb0
  by_cases h1 : 3000 < (l.length : Int)
  · go_wp2_with fail
    go_ret
    exact ⟨rfl, HB0.out⟩
  · go_wp2_with (at_builtin; refine wpList_append_any rfl (.tmp 19) (.tmp 20) 24 rfl w0.heap.size 5 (.int .u8 0) 1 1 Try.underlying24 info_u8 rfl (by decide) (by decide) (.slice (some ⟨w0.heap.size, 0, none⟩) 0 0) 0 [] rfl ?a1 A l.length c (bv l) rfl ?a2 ?a3 (bv_one l) ?a5 ?a6 ?a7)
    case a1 => exact World.ownsRow_made w0 #[] 0 (Nat.le_refl _) (Nat.zero_le _) rfl
    case a2 => exact SA.out _ (HB0.out.alloc HB0.out.size _)
    case a3 => simp [bv]
    case a5 => omega
    case a6 => simp
    intro v1 w1 hown1 hgr1 _ _
    have b1 : Below w0.heap.size w0 w1 := ((Below.refl _ _).alloc (Nat.le_refl _) (.cells #[] 5)).grown hgr1 (by simp) (by simp [Value.ownBlock])
    have hown2 : w1.ownsRow w0.heap.size 5 1 v1 l.length (bv l) := by simpa using hown1
    obtain ⟨A1, c1, rfl, -⟩ := own_form hown2
    have B1 : Hid (Below W.heap.size W w1) := Lib.hid (HB0.out.trans (b1.mono hs0))
    have S1 : Hid (∀ w', Below w1.heap.size w1 w' → Src w' A1 l.length c1 (bv l)) := Lib.hid (fun w' hb => (Src.of_own hown2).same fun ad had hne => hb.block _ ((Src.of_own hown2).lt had hne))
    have RD := Lib.hid (fun w' h => read_any l HB.out (by omega) A1 c1 w' (S1.out w' h))
    have RR := Lib.hid (fun w' h => refread_any l HB.out (by omega) A c w' (SA.out w' h))
    have HP := Lib.hid (fun w' h => hop_any l HB.out (by omega) A1 c1 w' (S1.out w' h))
    have HR := Lib.hid (fun w' h => refhop_any l HB.out (by omega) A c w' (SA.out w' h))
    clear hown1 hown2 hgr1 b1
    go_wp2_with fail
    refine (RD.out w1 (Below.refl _ _)).mono ?_
    rintro e w2 ⟨A2, c2, A3, c3, rfl, o2, o3, hb2⟩
    have S2 : Hid (∀ w', Below w2.heap.size w2 w' → Src w' A2 (readHd l).opts.length c2 (bv (readHd l).opts)) := Lib.hid (fun w' hb => (Src.of_own o2).same fun ad had hne => hb.block _ ((Src.of_own o2).lt had hne))
    have S3 : Hid (∀ w', Below w2.heap.size w2 w' → Src w' A3 (readPl l).length c3 (bv (readPl l))) := Lib.hid (fun w' hb => (Src.of_own o3).same fun ad had hne => hb.block _ ((Src.of_own o3).lt had hne))
    have B2 := Lib.hid hb2
    clear o2 o3 hb2 RD
    have BL2 : Hid (Below w2.heap.size w2 (w2.alloc (.cells (hv (readHd l) A2 c2) 26))) := Lib.hid ((Below.refl _ _).alloc (Nat.le_refl _) _)
    have BK2 := Lib.hid (heap_alloc_at w2 (.cells (hv (readHd l) A2 c2) 26))
    have HZ2 : Hid ((hv (readHd l) A2 c2).size = 14) := Lib.hid rfl
    have SM := Lib.hid (fun A c w' (h1 : Src w' A2 (readHd l).opts.length c2 (bv (readHd l).opts)) (h2 : Src w' A (readHd l).opts.length c (bv (readHd l).opts)) => same_any (readHd l) A2 A c2 c w' h1 h2)
    obtain ⟨H2, hH2⟩ : ∃ H2, hv (readHd l) A2 c2 = H2 := ⟨_, rfl⟩
    rw [hH2] at BL2 BK2 HZ2 SM
    simp only [hv] at hH2 ⊢
    have HH2 := Lib.hid hH2
    clear hH2
    go_upto_region 7 with fail
    rw [HH2.out]
    generalize w2.alloc (.cells H2 26) = w3 at *
    clear HH2
    have B3 : Hid (Below w1.heap.size w1 w3) := Lib.hid (B2.out.trans (BL2.out.mono B2.out.size))
    have BW3 : Hid (Below W.heap.size W w3) := Lib.hid (B1.out.trans (B3.out.mono B1.out.size))
    go_wp2_with fail
    refine (RR.out w3 BW3.out).mono ?_
    rintro e w4 ⟨A4, c4, A5, c5, rfl, o4, o5, hb4⟩
    have S4 : Hid (∀ w', Below w4.heap.size w4 w' → Src w' A4 (readHd l).opts.length c4 (bv (readHd l).opts)) := Lib.hid (fun w' hb => (Src.of_own o4).same fun ad had hne => hb.block _ ((Src.of_own o4).lt had hne))
    have S5 : Hid (∀ w', Below w4.heap.size w4 w' → Src w' A5 (readPl l).length c5 (bv (readPl l))) := Lib.hid (fun w' hb => (Src.of_own o5).same fun ad had hne => hb.block _ ((Src.of_own o5).lt had hne))
    have B4 := Lib.hid hb4
    clear o4 o5 hb4 RR
    have BL4 : Hid (Below w4.heap.size w4 (w4.alloc (.cells (hv (readHd l) A4 c4) 26))) := Lib.hid ((Below.refl _ _).alloc (Nat.le_refl _) _)
    have BK4 := Lib.hid (heap_alloc_at w4 (.cells (hv (readHd l) A4 c4) 26))
    have HZ4 : Hid ((hv (readHd l) A4 c4).size = 14) := Lib.hid rfl
    have SM4 := Lib.hid (fun w' h1 h2 => SM.out A4 c4 w' h1 h2)
    obtain ⟨H4, hH4⟩ : ∃ H4, hv (readHd l) A4 c4 = H4 := ⟨_, rfl⟩
    rw [hH4] at BL4 BK4 HZ4 SM4
    simp only [hv] at hH4 ⊢
    have HH4 := Lib.hid hH4
    clear hH4 SM
    go_upto_region 8 with fail
    rw [HH4.out]
    generalize w4.alloc (.cells H4 26) = w5 at *
    clear HH4
    have B5 : Hid (Below w3.heap.size w3 w5) := Lib.hid (B4.out.trans (BL4.out.mono B4.out.size))
    go_wp2_with fail
    refine (HP.out w5 (B3.out.trans (B5.out.mono B3.out.size))).mono ?_
    rintro e w6 ⟨A6, c6, rfl, o6, hb6⟩
    have S6 : Hid (∀ w', Below w6.heap.size w6 w' → Src w' A6 (hopB l).length c6 (bv (hopB l))) := Lib.hid (fun w' hb => (Src.of_own o6).same fun ad had hne => hb.block _ ((Src.of_own o6).lt had hne))
    have B6 := Lib.hid hb6
    clear o6 hb6 HP
    have B36 : Hid (Below w3.heap.size w3 w6) := Lib.hid (B5.out.trans (B6.out.mono B5.out.size))
    go_wp2_with fail
    refine (HR.out w6 (BW3.out.trans (B36.out.mono BW3.out.size))).mono ?_
    rintro e w7 ⟨A7, c7, rfl, o7, hb7⟩
    have S7 : Hid (∀ w', Below w7.heap.size w7 w' → Src w' A7 (hopB l).length c7 (bv (hopB l))) := Lib.hid (fun w' hb => (Src.of_own o7).same fun ad had hne => hb.block _ ((Src.of_own o7).lt had hne))
    have B7 := Lib.hid hb7
    clear o7 hb7 HR
    have B47 : Hid (Below w4.heap.size w4 w7) := Lib.hid (BL4.out.trans ((B6.out.trans (B7.out.mono B6.out.size)).mono BL4.out.size))
    have B37 : Hid (Below w3.heap.size w3 w7) := Lib.hid (B36.out.trans (B7.out.mono B36.out.size))
    have K2 := Lib.hid ((B37.out.block w2.heap.size (block_lt BK2.out)).trans BK2.out)
    have K4 : Hid (w7.heap[w4.heap.size]? = some (.cells H4 26)) := Lib.hid (((B6.out.trans (B7.out.mono B6.out.size)).block w4.heap.size (block_lt BK4.out)).trans BK4.out)
    generalize readHd l = K at *
    generalize readPl l = p at *
    generalize hopB l = q at *
    generalize hopE l = g at *
    generalize fault l = f at *
    have B27 : Hid (Below w2.heap.size w2 w7) := Lib.hid (BL2.out.trans (B37.out.mono BL2.out.size))
    go_wp2_with (first
      | refine wpList_load_block rfl 26 (.tmp 4) rfl w2.heap.size rfl H2 26 (0, 0) K2.out _ Try.underlying26 rfl (by rw [HZ2.out]; kernel_rfl) ?_
      | refine wpList_load_block rfl 26 (.tmp 7) rfl w4.heap.size rfl H4 26 (0, 0) K4.out _ Try.underlying26 rfl (by rw [HZ4.out]; kernel_rfl) ?_)
    refine (SM4.out w7 (S2.out w7 B27.out) (S4.out w7 B47.out)).mono ?_
    rintro e w8 ⟨rfl, hb8⟩
    have B8 := Lib.hid hb8
    clear hb8
    have BW8 : Hid (Below W.heap.size W w8) := Lib.hid ((BW3.out.trans (B37.out.mono BW3.out.size)).trans (B8.out.mono (BW3.out.trans (B37.out.mono BW3.out.size)).size))
    have T1 := str_run p A3 c3 w8 (S3.out w8 (B27.out.trans (B8.out.mono B27.out.size)))
    have T2 := str_run p A5 c5 w8 (S5.out w8 (B47.out.trans (B8.out.mono B47.out.size)))
    have T3 := str_run q A6 c6 w8 (S6.out w8 (B7.out.trans (B8.out.mono B7.out.size)))
    have T4 := str_run q A7 c7 w8 (S7.out w8 B8.out)
    have T5 := str_run l A1 c1 w8 (S1.out w8 ((B3.out.trans (B37.out.mono B3.out.size)).trans (B8.out.mono (B3.out.trans (B37.out.mono B3.out.size)).size)))
    have T6 := str_run l A c w8 (SA.out w8 BW8.out)
    go_wp2_with fail
    go_ret
    exact ⟨rfl, BW8.out⟩
end Go.Proofs.Ytjembpchgemhnaa.Head
