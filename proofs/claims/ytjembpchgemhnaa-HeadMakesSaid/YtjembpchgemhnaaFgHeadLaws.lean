/- The laws HeadNames, HeadSums and HeadMakes of floodgate's head layer. There are no conditions. -/
import Derived.Test.YtjembpchgemhnaaFgHeadOpen
import Derived.Test.YtjembpchgemhnaaFgHeadRefMake
set_option linter.unusedVariables false
set_option linter.unusedSimpArgs false
namespace Go.Proofs.Ytjembpchgemhnaa.Head
open Go.RowKit Go.Proofs.Ytjembpchgemhnaa.Fg Go.ChangeShapes Go.WideShapes Go.ChangeAt

theorem n1 : fault [] = 51 := by decide
theorem n2 : fault (List.replicate 20 0) = 52 := by decide
def exH2 : Hd := ⟨256, 0, 0, 0, 0, 0, 0, 0, 0, 0, 0, 0, 0, []⟩
theorem n3 : makes exH2 [] = false := by decide
set_option maxRecDepth 100000 in
set_option maxHeartbeats 1000000 in
theorem names_any (W : World) : Calls Try.prog 3 #[] W fun e w' => e = .returned (.bool true) ∧ Below W.heap.size W w' := by
  have hmk := fun u => make_bytes 20 20 (by decide) (by decide) u
  simp only [show ((20 : Nat) : Int) = 20 from rfl] at hmk
  go_enter Try.func3, Try.ntmps3
  go_wp2_with fail
  refine (read_any [] (fun x h => by cases h) (by decide) none 0 _ ⟨fun _ => ⟨rfl, rfl⟩, Nat.le_refl _, by simp [maxLen], fun _ h => by cases h⟩).mono ?_
  rintro e w1 ⟨A1, c1, A2, c2, rfl, -, -, hb1⟩
  have e1 : readHd [] = noHd := rfl
  have e2 : readPl [] = [] := rfl
  rw [n1, e1, e2]
  have B1 := Lib.hid hb1
  clear hb1 e1 e2
  simp only [hv, noHd, List.length_nil]
  go_upto_region 2 with fail
  have B2 : Hid (Below W.heap.size W (w1.alloc (.cells #[.int .i64 0, .int .i64 0, .int .i64 0, .int .i64 0, .int .i64 0, .int .u8 0, .int .u8 0, .int .u8 0, .int .u8 0, .int .u8 0, .int .u8 0, .int .u8 0, .int .u8 0, .slice A1 0 c1] 26))) := Lib.hid (B1.out.alloc B1.out.size _)
  generalize w1.alloc (.cells _ 26) = w2 at *
  have hr := make_row 20 20 (by decide) (by decide) w2
  go_wp2_with fail
  refine (read_any (List.replicate 20 0) (by unfold Small; decide) (by decide) _ 20 _ hr.src).mono ?_
  rintro e w3 ⟨A3, c3, A4, c4, rfl, -, -, hb3⟩
  have e1 : readHd (List.replicate 20 0) = noHd := rfl
  have e2 : readPl (List.replicate 20 0) = [] := rfl
  rw [n2, e1, e2]
  have B3 : Hid (Below W.heap.size W w3) := Lib.hid ((B2.out.alloc B2.out.size _).trans (hb3.mono (by have := B2.out.size; simp; omega)))
  clear hb3 e1 e2 hr hmk
  simp only [hv, noHd, List.length_nil]
  go_upto_region 3 with fail
  have B4 : Hid (Below W.heap.size W (w3.alloc (.cells #[.int .i64 0, .int .i64 0, .int .i64 0, .int .i64 0, .int .i64 0, .int .u8 0, .int .u8 0, .int .u8 0, .int .u8 0, .int .u8 0, .int .u8 0, .int .u8 0, .int .u8 0, .slice A3 0 c3] 26))) := Lib.hid (B3.out.alloc B3.out.size _)
  generalize w3.alloc (.cells _ 26) = w4 at *
  have hm := make_any exH2 ⟨(by unfold Small; simp [exH2]), (by unfold Small; simp [exH2])⟩ none 0 [] (fun x h => by cases h) none 0 w4 ⟨fun _ => ⟨rfl, rfl⟩, Nat.le_refl _, by simp [maxLen], fun _ h => by cases h⟩ ⟨fun _ => ⟨rfl, rfl⟩, Nat.le_refl _, by simp [maxLen], fun _ h => by cases h⟩ (by decide) (by decide)
  have HM := Lib.hid hm
  clear hm
  go_wp2_with fail
  refine HM.out.mono ?_
  rintro e w5 ⟨A5, c5, rfl, -, hb5⟩
  rw [n3]
  have B5 : Hid (Below W.heap.size W w5) := Lib.hid (B4.out.trans (hb5.mono B4.out.size))
  clear hb5 HM
  simp only [Bool.false_eq_true, if_false]
  go_wp2_with fail
  refine (alive_any w5).mono ?_
  rintro e w6 ⟨rfl, hb6⟩
  have B6 : Hid (Below W.heap.size W w6) := Lib.hid (B5.out.trans (hb6.mono B5.out.size))
  clear hb6
  go_wp2_with fail
  go_ret
  exact ⟨rfl, B6.out⟩

set_option maxRecDepth 100000 in
set_option maxHeartbeats 1000000 in
theorem sums_any (l : List Int) (hb : Small l) (A : Option Addr) (c : Nat) (W : World) (hs : Src W A l.length c (bv l)) (hn : l.length ≤ reachBytes) :
    Calls Try.prog 4 #[.slice A l.length c] W fun e w' => e = .returned (.bool true) ∧ Below W.heap.size W w' := by
  have HB := Lib.hid hb
  have SA : Hid (∀ w', Below W.heap.size W w' → Src w' A l.length c (bv l)) := Lib.hid (fun w' hb => hs.same fun ad had hne => hb.block _ (hs.lt had hne))
  clear hb hs
  go_enter Try.func4, Try.ntmps4
  go_wp2_with fail
  refine (alive_any W).mono ?_
  rintro e w0 ⟨rfl, hb0⟩
  have hs0 := hb0.size
  have HB0 := Lib.hid hb0
  clear hb0
  by_cases h1 : 3000 < (l.length : Int)
  · go_wp2_with fail
    go_ret
    exact ⟨rfl, HB0.out⟩
  · go_wp2_with (at_builtin; go_loud (refine wpList_append_g (by simp [Region.wanted, yielded]; omega) (.tmp 9) (.tmp 10) 24 rfl W.heap.size 5 (.int .u8 0) 1 1 Try.underlying24 info_u8 rfl (by decide) (by decide) (.slice (some ⟨w0.heap.size, 0, none⟩) 0 0) 0 [] rfl ?a1 A l.length c (bv l) rfl ?a2 ?a3 (bv_one l) ?a5 ?a6 ?a7))
    case a1 => exact World.ownsRow_made w0 #[] 0 hs0 (Nat.zero_le _) rfl
    case a2 => exact SA.out _ (HB0.out.alloc hs0 _)
    case a3 => simp [bv]
    case a5 => omega
    case a6 => simp; omega
    intro v1 w1 hown1 hgr1 _ _
    have b1 : Below W.heap.size W w1 := (HB0.out.alloc hs0 (.cells #[] 5)).grown hgr1 (by simp; omega) (by simp [Value.ownBlock]; omega)
    obtain ⟨A1, c1, rfl, -⟩ := own_form hown1
    have HB1 := Lib.hid b1
    have HO1 : Hid (w1.ownsRow W.heap.size 5 1 (.slice A1 l.length c1) l.length (bv l)) := Lib.hid (by simpa using hown1)
    clear b1 hown1 hgr1
    go_wp2_with fail
    refine (sum_any l HB.out (by omega) A1 c1 w1 (Src.of_own HO1.out)).mono ?_
    rintro e w2 ⟨rfl, rfl⟩
    have hsb := sumH_bd l
    go_wp2_with fail
    refine (refsum_any l HB.out (by omega) A c _ (SA.out _ HB1.out)).mono ?_
    rintro e w3 ⟨rfl, rfl⟩
    go_wp2_with fail
    go_ret
    exact ⟨rfl, HB1.out⟩

set_option maxRecDepth 100000 in
set_option maxHeartbeats 1000000 in
theorem makes_any (h : Hd) (hh : h.small) (A : Option Addr) (c : Nat) (p : List Int) (hp : Small p) (A2 : Option Addr) (c2 : Nat) (W : World) (ho : Src W A h.opts.length c (bv h.opts)) (hn : h.opts.length ≤ reachBytes) (hpl : Src W A2 p.length c2 (bv p)) (hn2 : p.length ≤ reachBytes) :
    Calls Try.prog 5 #[.agg (hv h A c), .slice A2 p.length c2] W fun e w' => e = .returned (.bool true) ∧ Below W.heap.size W w' := by
  have SO : Hid (∀ w', Below W.heap.size W w' → Src w' A h.opts.length c (bv h.opts)) := Lib.hid (fun w' hb => ho.same fun ad had hne => hb.block _ (ho.lt had hne))
  have SP : Hid (∀ w', Below W.heap.size W w' → Src w' A2 p.length c2 (bv p)) := Lib.hid (fun w' hb => hpl.same fun ad had hne => hb.block _ (hpl.lt had hne))
  have hnr : reachBytes = 140737488351232 := rfl
  rw [hnr] at hn hn2
  clear hnr
  have MK : Hid (∀ A' c' w', Below W.heap.size W w' → Src w' A' p.length c' (bv p) → Calls Try.prog 12 #[.agg (hv h A c), .slice A' p.length c'] w' (MakeMade h p w')) := Lib.hid (fun A' c' w' hb hs => make_any h hh A c p hp A' c' w' (SO.out w' hb) hs (by omega) (by omega))
  have MR : Hid (∀ A' c' w', Below W.heap.size W w' → Src w' A' p.length c' (bv p) → Calls Try.prog 16 #[.agg (hv h A c), .slice A' p.length c'] w' (MakeMade h p w')) := Lib.hid (fun A' c' w' hb hs => refmake_any h hh A c p hp A' c' w' (SO.out w' hb) hs (by omega) (by omega))
  have HC : Hid (∀ w', Below (W.alloc (.cells (hv h A c) 26)).heap.size (W.alloc (.cells (hv h A c) 26)) w' → w'.heap[W.heap.size]? = some (.cells (hv h A c) 26)) := Lib.hid (fun w' hb => (hb.block _ (by simp)).trans (heap_alloc_at W _))
  clear ho hpl hh hp
  obtain ⟨lo, hlo⟩ : ∃ lo, h.opts.length = lo := ⟨_, rfl⟩
  have BX : Hid (Below W.heap.size W (W.alloc (.cells (hv h A c) 26))) := Lib.hid ((Below.refl _ _).alloc (Nat.le_refl _) _)
  have hzX : W.heap.size < (W.alloc (.cells (hv h A c) 26)).heap.size := by simp
  have HCELL : Hid ((hv h A c)[13]? = some (.slice A lo c)) := Lib.hid (by rw [← hlo]; rfl)
  rw [hlo] at hn SO
  have HSZ : Hid ((hv h A c).size = 14) := Lib.hid rfl
  clear hlo
  generalize hH : hv h A c = H at *
  clear hH
  go_enter Try.func5, Try.ntmps5
  go_wp2_with fail
  generalize hwA : W.alloc (.cells H 26) = wA at *
  clear hwA
  refine (alive_any wA).mono ?_
  rintro e w0 ⟨rfl, hb0⟩
  have hs0 := hb0.size
  have HB0 : Hid (Below wA.heap.size wA w0) := Lib.hid hb0
  clear hb0
  have blk := HC.out w0 HB0.out
  have k13 := (cell_of_block blk 13).trans HCELL.out
  have BLK := Lib.hid blk
  have BW0 : Hid (Below W.heap.size W w0) := Lib.hid (BX.out.trans (HB0.out.mono BX.out.size))
  clear blk
  by_cases h1 : 3000 < (p.length : Int)
  · go_wp2_with fail
    go_ret
    exact ⟨rfl, BW0.out⟩
  · by_cases h2 : 3000 < (lo : Int)
    · go_wp2_with fail
      go_ret
      exact ⟨rfl, BW0.out⟩
    · go_wp2_with (at_builtin; refine wpList_append_any rfl (.tmp 21) (.tmp 22) 24 rfl wA.heap.size 5 (.int .u8 0) 1 1 Try.underlying24 info_u8 rfl (by decide) (by decide) (.slice (some ⟨w0.heap.size, 0, none⟩) 0 0) 0 [] rfl ?a1 A2 p.length c2 (bv p) rfl ?a2 ?a3 (bv_one p) ?a5 ?a6 ?a7)
      case a1 => exact World.ownsRow_made w0 #[] 0 hs0 (Nat.zero_le _) rfl
      case a2 => exact SP.out _ (BW0.out.alloc BW0.out.size _)
      case a3 => simp [bv]
      case a5 => omega
      case a6 => simp; omega
      intro v1 w1 hown1 hgr1 _ _
      have b1 : Below wA.heap.size wA w1 := (HB0.out.alloc hs0 (.cells #[] 5)).grown hgr1 (by simp; omega) (by simp [Value.ownBlock]; omega)
      obtain ⟨A1, c1, rfl, -⟩ := own_form hown1
      have HB1 := Lib.hid b1
      have HO1 : Hid (w1.ownsRow wA.heap.size 5 1 (.slice A1 p.length c1) p.length (bv p)) := Lib.hid (by simpa using hown1)
      have BW1 : Hid (Below W.heap.size W w1) := Lib.hid (BX.out.trans (b1.mono BX.out.size))
      have BLK1 := Lib.hid (HC.out w1 b1)
      have SO1 : Hid (∀ w', Below w1.heap.size w1 w' → Src w' A1 p.length c1 (bv p)) := Lib.hid (fun w' hb => (Src.of_own HO1.out).same fun ad had hne => hb.block _ ((Src.of_own HO1.out).lt had hne))
      clear b1 hown1 hgr1 k13
      go_wp2_with (refine wpList_load_block rfl 26 (.tmp 2) rfl W.heap.size rfl H 26 (0, 0) BLK1.out _ Try.underlying26 rfl (by rw [HSZ.out]; kernel_rfl) ?_)
      go_wp2_with fail
      refine (MK.out _ _ _ BW1.out (SO1.out _ (Below.refl _ _))).mono ?_
      rintro e w2 ⟨A3, c3, rfl, ho2, hb2⟩
      have BA2 : Hid (Below wA.heap.size wA w2) := Lib.hid (HB1.out.trans (hb2.mono HB1.out.size))
      have BW2 : Hid (Below W.heap.size W w2) := Lib.hid (BX.out.trans (BA2.out.mono BX.out.size))
      have B12 : Hid (Below w1.heap.size w1 w2) := Lib.hid hb2
      have BLK2 := Lib.hid (HC.out w2 BA2.out)
      obtain ⟨m, hm⟩ : ∃ m, (if makes h p = true then (packet h p).length else 0) = m := ⟨_, rfl⟩
      obtain ⟨L, hL⟩ : ∃ L, (if makes h p = true then packet h p else []) = L := ⟨_, rfl⟩
      obtain ⟨er, her⟩ : ∃ er : Int, (if makes h p = true then (0 : Int) else 55) = er := ⟨_, rfl⟩
      have hmL : L.length = m := by rw [← hL, ← hm]; split <;> rfl
      have MR : Hid (∀ A' c' w', Below W.heap.size W w' → Src w' A' p.length c' (bv p) → Calls Try.prog 16 #[.agg H, .slice A' p.length c'] w' fun e w2 => ∃ A c, e = .returned (.tuple #[.slice A m c, .int .i64 er]) ∧ w2.ownsRow w'.heap.size 5 1 (.slice A m c) m (bv L) ∧ Below w'.heap.size w' w2) := Lib.hid (fun A' c' w' hb hs => (MR.out A' c' w' hb hs).mono fun e w2 hq => by
        obtain ⟨A, c, q1, q2, q3⟩ := hq
        rw [hm, her] at q1
        rw [hm, hL] at q2
        exact ⟨A, c, q1, q2, q3⟩)
      rw [hm, hL] at ho2
      rw [hm, her]
      have S3 : Hid (∀ w', Below w2.heap.size w2 w' → (convert 24 9 (.slice A3 m c3)).run Try.prog w' = .ok (.string (strOfNums L)) w') := Lib.hid (fun w' hb => by
        have hs := (Src.of_own ho2).same fun ad had hne => hb.block _ ((Src.of_own ho2).lt had hne)
        rw [← hmL] at hs ⊢
        exact str_run _ _ _ _ hs)
      have HML := Lib.hid hmL
      clear ho2 hb2 hm hL her hmL MK
      go_wp2_with (refine wpList_load_block rfl 26 (.tmp 2) rfl W.heap.size rfl H 26 (0, 0) BLK2.out _ Try.underlying26 rfl (by rw [HSZ.out]; kernel_rfl) ?_)
      go_wp2_with fail
      refine (MR.out _ _ _ BW2.out (SP.out _ BW2.out)).mono ?_
      rintro e w3 ⟨A4, c4, rfl, ho3, hb3⟩
      have t4 : (convert 24 9 (.slice A4 m c4)).run Try.prog w3 = .ok (.string (strOfNums L)) w3 := by
        have hs := Src.of_own ho3
        rw [← HML.out] at hs ⊢
        exact str_run _ _ _ _ hs
      have t3 := S3.out w3 hb3
      have t1 : (convert 24 9 (.slice A1 p.length c1)).run Try.prog w3 = .ok (.string (strOfNums p)) w3 := str_run _ _ _ _ (SO1.out w3 (B12.out.trans (hb3.mono B12.out.size)))
      have BW3 : Hid (Below W.heap.size W w3) := Lib.hid (BW2.out.trans (hb3.mono BW2.out.size))
      have t2 : (convert 24 9 (.slice A2 p.length c2)).run Try.prog w3 = .ok (.string (strOfNums p)) w3 := str_run _ _ _ _ (SP.out w3 BW3.out)
      clear ho3 hb3 S3 MR
      go_wp2_with fail
      go_ret
      exact ⟨rfl, BW3.out⟩
end Go.Proofs.Ytjembpchgemhnaa.Head
