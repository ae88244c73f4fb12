/- The walk of the law HeadWords of floodgate's head layer. There are no conditions. -/
import Derived.Test.YtjembpchgemhnaaFgHeadOpen
set_option linter.unusedVariables false
set_option linter.unusedSimpArgs false
namespace Go.Proofs.Ytjembpchgemhnaa.Head
open Go.RowKit Go.Proofs.Ytjembpchgemhnaa.Fg Go.ChangeShapes Go.WideShapes Go.ChangeAt

theorem turned (l : List Int) (k : Nat) (h2 : l.length % 2 = 0) (hk : 2 * k ≤ l.length) : sumH (l.drop (2 * k) ++ l.take (2 * k)) = sumH l := by
  have e : tot l = tot (l.take (2 * k)) + tot (l.drop (2 * k)) := by
    rw [← tot_append _ _ (by rw [List.length_take]; omega), List.take_append_drop]
  have e2 : tot (l.drop (2 * k) ++ l.take (2 * k)) = tot (l.drop (2 * k)) + tot (l.take (2 * k)) := tot_append _ _ (by rw [List.length_drop]; omega)
  rw [sumH, sumH, e2, e, Int.add_comm]
theorem summed (l : List Int) (hb : Small l) (h2 : l.length % 2 = 0) : sumH (l ++ [sumH l / 256, sumH l % 256]) = 0 := by
  have h0 := (tot_bd l hb).1
  have hs := sumH_bd l
  have e : tot (l ++ [sumH l / 256, sumH l % 256]) = tot l + sumH l := by
    rw [tot_append _ _ h2]
    simp only [tot]
    omega
  rw [sumH, e]
  have hf := fin_bd (tot l)
  have : fin (tot l + sumH l) = 65535 := by
    rw [← fin_minus (tot l) (sumH l) h0 hs.1 hs.2, sumH]
    rw [show fin (tot l) + (65535 - fin (tot l)) = 65535 by omega]
    rfl
  omega

set_option maxRecDepth 100000 in
set_option maxHeartbeats 1000000 in
theorem words_any (l : List Int) (hb : Small l) (A : Option Addr) (c : Nat) (z : Int) (hz : (Lit.int IntKind.i64 z).wf = true) (W : World) (hs : Src W A l.length c (bv l)) (hn : l.length ≤ reachBytes) :
    Calls Try.prog 8 #[.slice A l.length c, .int .i64 z] W fun e w' => e = .returned (.bool true) ∧ Below W.heap.size W w' := by
  have hzb := bounds_i64 hz
  have hcap := hs.cap
  have hmost := hs.most
  have HB := Lib.hid hb
  have SA : Hid (∀ w', Below W.heap.size W w' → Src w' A l.length c (bv l)) := Lib.hid (fun w' hb => hs.same fun ad had hne => hb.block _ (hs.lt had hne))
  have hnil : A = none → l.length = 0 ∧ c = 0 := fun h => hs.nil h
  have HNIL := Lib.hid hnil
  clear hb hs hz hnil
  go_enter Try.func8, Try.ntmps8
  go_wp2_with fail
  refine (alive_any W).mono ?_
  rintro e w0 ⟨rfl, hb0⟩
  have hs0 := hb0.size
  have HB0 := Lib.hid hb0
  clear hb0
  by_cases h1 : 2000 < (l.length : Int)
  · go_wp2_with fail
    go_ret
    exact ⟨rfl, HB0.out⟩
  · by_cases h2 : l.length % 2 = 0
    · have h2b : (((l.length : Int) % 2) != 0) = false := by rw [bne_eq_false_iff_eq]; omega
      by_cases h3 : z < 0
      · have H2 := Lib.hid h2
        clear h2
        go_wp2_with fail
        go_ret
        exact ⟨rfl, HB0.out⟩
      · obtain ⟨k, rfl⟩ : ∃ k : Nat, z = k := ⟨z.toNat, by omega⟩
        have H2 := Lib.hid h2
        clear h2
        by_cases h4 : (l.length : Int) / 2 < (k : Int)
        · go_wp2_with fail
          go_ret
          exact ⟨rfl, HB0.out⟩
        · have hk : 2 * k ≤ l.length := by omega
          have m1 : (0 : Int) ≤ 2 * (k : Int) := by omega
          have m2 : 2 * (k : Int) ≤ (l.length : Int) := by omega
          have m3 : 2 * (k : Int) ≤ (c : Int) := by omega
          have m4 : (2 * (k : Int)).toNat = 2 * k := by omega
          have m5 : 2 * k ≤ c := by omega
          have m6 : IntKind.i64.wrap (2 * (k : Int)) = 2 * (k : Int) := by rw [IntKind.wrap_i64]; omega
          go_upto_region 5 with fail
          have ST : Hid (∀ w', Below W.heap.size W w' → Src w' A (2 * k) c (bv (l.take (2 * k)))) := Lib.hid (fun w' hb => src_take (SA.out w' hb) hk)
          have HK := Lib.hid hk
          go_cut [5] (fun s5 wx => ∃ v, s5 = v ∧ wx.ownsRow W.heap.size 5 1 v l.length (bv (l.drop (2 * k) ++ l.take (2 * k))) ∧ Below W.heap.size W wx)
          case first =>
            by_cases hck : c = 2 * k
            · subst hck
              have SX : Hid (∀ w', Below W.heap.size W w' → Src w' A 0 0 (bv (l.drop (2 * k)))) := Lib.hid (fun w' hb => ⟨fun h => ⟨rfl, rfl⟩, by omega, by simp [maxLen], fun ad had j u hu => by rw [List.drop_of_length_le (by omega)] at hu; simp [bv] at hu⟩)
              go_region_held3 (fun w' => W.heap.size ≤ w'.heap.size) (first | exact GX.out.size | (simp; omega) | (simp; done) | go_keep)
                (first
                  | (refine step_append_any (by rfl) (.tmp 30) (.tmp 34) 24 (by rfl) W.heap.size 5 (.int .u8 0) 1 1 Try.underlying24 info_u8 rfl (by decide) (by decide) (.slice (some ⟨w0.heap.size, 0, none⟩) 0 0) 0 [] (by rfl) (World.ownsRow_made w0 #[] 0 hs0 (Nat.zero_le _) rfl) A 0 0 (bv (l.drop (2 * k))) (by rfl) (src_drew (SX.out _ (HB0.out.alloc hs0 _))) (by rw [bv_length, List.length_drop]; omega) (bv_one _) (by omega) (by simp; omega) ?_; intro v1 w1 ho hg _ _; have G1 : Hid (w1.ownsRow W.heap.size 5 1 v1 0 (bv (l.drop (2 * k)))) := Lib.hid (by simpa using ho); have GX : Hid (Below W.heap.size W w1) := Lib.hid ((below_dr (HB0.out.alloc hs0 (.cells #[] 5))).grown hg (by simp; omega) (by simp [Value.ownBlock]; omega)); have GX1 := GX; clear ho hg)
                  | (refine step_append_any (by rfl) (.tmp 35) (.tmp 39) 24 (by rfl) W.heap.size 5 (.int .u8 0) 1 1 Try.underlying24 info_u8 rfl (by decide) (by decide) v1 0 (bv (l.drop (2 * k))) (by rfl) G1.out A (2 * k) (2 * k) (bv (l.take (2 * k))) (by rfl) (ST.out _ GX1.out) (by have := HK.out; rw [bv_length, List.length_take]; omega) (bv_one _) (by omega) GX1.out.size ?_; intro v2 w2 ho hg _ _; have G2 : Hid (w2.ownsRow W.heap.size 5 1 v2 (0 + 2 * k) (bv (l.drop (2 * k)) ++ bv (l.take (2 * k)))) := Lib.hid ho; have GX : Hid (Below W.heap.size W w2) := Lib.hid (GX1.out.grown hg GX1.out.size (fun k hk => (G1.out.lt k hk).1)); clear ho hg)
                  | fail)
              go_wp2_with fail
              go_meet
              refine ⟨v2, rfl, ?_, GX.out⟩
              have := G2.out
              rw [← bv_append, show 0 + 2 * k = l.length by omega] at this
              exact this
            · cases A with
              | none => have := HNIL.out rfl; exfalso; omega
              | some ad =>
                have SX : Hid (∀ w', Below W.heap.size W w' → Src w' (some (ad.add (2 * k))) (l.length - 2 * k) (c - 2 * k) (bv (l.drop (2 * k)))) := Lib.hid (fun w' hb => src_drop (SA.out w' hb) hk)
                go_region_held3 (fun w' => W.heap.size ≤ w'.heap.size) (first | exact GX.out.size | (simp; omega) | (simp; done) | go_keep)
                  (first
                    | (refine step_append_any (by rfl) (.tmp 30) (.tmp 34) 24 (by rfl) W.heap.size 5 (.int .u8 0) 1 1 Try.underlying24 info_u8 rfl (by decide) (by decide) (.slice (some ⟨w0.heap.size, 0, none⟩) 0 0) 0 [] (by rfl) (World.ownsRow_made w0 #[] 0 hs0 (Nat.zero_le _) rfl) (some (ad.add (2 * k))) (l.length - 2 * k) (c - 2 * k) (bv (l.drop (2 * k))) (by rfl) (src_drew (SX.out _ (HB0.out.alloc hs0 _))) (by rw [bv_length, List.length_drop, Nat.mul_one]) (bv_one _) (by omega) (by simp; omega) ?_; intro v1 w1 ho hg _ _; have G1 : Hid (w1.ownsRow W.heap.size 5 1 v1 (l.length - 2 * k) (bv (l.drop (2 * k)))) := Lib.hid (by simpa using ho); have GX : Hid (Below W.heap.size W w1) := Lib.hid ((below_dr (HB0.out.alloc hs0 (.cells #[] 5))).grown hg (by simp; omega) (by simp [Value.ownBlock]; omega)); have GX1 := GX; clear ho hg)
                    | (refine step_append_any (by rfl) (.tmp 35) (.tmp 39) 24 (by rfl) W.heap.size 5 (.int .u8 0) 1 1 Try.underlying24 info_u8 rfl (by decide) (by decide) v1 (l.length - 2 * k) (bv (l.drop (2 * k))) (by rfl) G1.out (some ad) (2 * k) c (bv (l.take (2 * k))) (by rfl) (ST.out _ GX1.out) (by have := HK.out; rw [bv_length, List.length_take]; omega) (bv_one _) (by omega) GX1.out.size ?_; intro v2 w2 ho hg _ _; have G2 : Hid (w2.ownsRow W.heap.size 5 1 v2 (l.length - 2 * k + 2 * k) (bv (l.drop (2 * k)) ++ bv (l.take (2 * k)))) := Lib.hid ho; have GX : Hid (Below W.heap.size W w2) := Lib.hid (GX1.out.grown hg GX1.out.size (fun k hk => (G1.out.lt k hk).1)); clear ho hg)
                    | fail)
                go_wp2_with fail
                go_meet
                refine ⟨v2, rfl, ?_, GX.out⟩
                have := G2.out
                rw [← bv_append, show l.length - 2 * k + 2 * k = l.length by omega] at this
                exact this
          case rest =>
            obtain ⟨v2, rfl, how, hbw⟩ := hcut
            obtain ⟨A5, c5, rfl, -⟩ := own_form how
            have HO := Lib.hid how
            have HBW := Lib.hid hbw
            clear how hbw ST
            have hsb := sumH_bd l
            have hlx : (l.drop (2 * k) ++ l.take (2 * k)).length = l.length := by rw [List.length_append, List.length_drop, List.length_take]; omega
            have SUMX : Hid (∀ w', Src w' A5 l.length c5 (bv (l.drop (2 * k) ++ l.take (2 * k))) → Calls Try.prog 14 #[.slice A5 l.length c5] w' fun e w2 => e = .returned (.int .u16 (sumH l)) ∧ w2 = w') := Lib.hid (fun w' h => by
              have := sum_any _ ((HB.out.drop (2 * k)).append (HB.out.take (2 * k))) (by rw [hlx]; omega) A5 c5 w' (by rw [hlx]; exact h)
              rw [hlx, turned l k H2.out hk] at this
              exact this)
            have SX : Hid (∀ w', Below wc.heap.size wc w' → Src w' A5 l.length c5 (bv (l.drop (2 * k) ++ l.take (2 * k)))) := Lib.hid (fun w' hb => (Src.of_own HO.out).same fun ad had hne => hb.block _ ((Src.of_own HO.out).lt had hne))
            have HALL : Hid (sumH (l ++ [sumH l / 256, sumH l % 256]) = 0) := Lib.hid (summed l HB.out H2.out)
            have SMALL : Hid (Small (l ++ [sumH l / 256, sumH l % 256])) := Lib.hid (HB.out.append (fun x hx => by simp only [List.mem_cons, List.not_mem_nil, or_false] at hx; omega))
            have SU : Hid (∀ w', Below W.heap.size W w' → Calls Try.prog 14 #[.slice A l.length c] w' fun e w2 => e = .returned (.int .u16 (sumH l)) ∧ w2 = w') := Lib.hid (fun w' hb => sum_any l HB.out (by omega) A c w' (SA.out w' hb))
            clear hlx
            generalize sumH l = sm at *
            have hd : sm / 256 ≤ 255 := by omega
            go_wp2_with fail
            refine (SU.out _ HBW.out).mono ?_
            rintro e w3 ⟨rfl, rfl⟩
            go_wp2_with (at_builtin; refine wpList_append_any rfl (.tmp 43) (.tmp 44) 24 rfl w3.heap.size 5 (.int .u8 0) 1 1 Try.underlying24 info_u8 rfl (by decide) (by decide) (.slice (some ⟨w3.heap.size, 0, none⟩) 0 0) 0 [] rfl ?a1 A l.length c (bv l) rfl ?a2 ?a3 (bv_one l) ?a5 ?a6 ?a7)
            case a1 => exact World.ownsRow_made w3 #[] 0 (Nat.le_refl _) (Nat.zero_le _) rfl
            case a2 => exact SA.out _ (HBW.out.alloc HBW.out.size _)
            case a3 => simp [bv]
            case a5 => omega
            case a6 => simp
            intro v1 w4 hown1 hgr1 _ _
            have b4 : Below w3.heap.size w3 w4 := ((Below.refl _ _).alloc (Nat.le_refl _) (.cells #[] 5)).grown hgr1 (by simp) (by simp [Value.ownBlock])
            have HB4 := Lib.hid b4
            have HO4 : Hid (w4.ownsRow w3.heap.size 5 1 v1 l.length (bv l)) := Lib.hid (by simpa using hown1)
            clear b4 hown1 hgr1
            go_wp2_with (at_builtin; refine wpList_append_any rfl (.tmp 45) (.tmp 51) 24 rfl w3.heap.size 5 (.int .u8 0) 1 1 Try.underlying24 info_u8 rfl (by decide) (by decide) v1 l.length (bv l) rfl (HO4.out.alloc _) (some ⟨w4.heap.size, 0, none⟩) 2 2 (bv [sm / 256, sm % 256]) rfl ?b2 ?b3 (bv_one _) ?b5 ?b6 ?b7)
            case b2 => exact src_const w4 [sm / 256, sm % 256] (0, 0) (by simp [maxLen])
            case b3 => simp [bv]
            case b5 => omega
            case b6 => have h2 := HB4.out.size; simp; omega
            intro v2 w5 hown2 hgr2 _ _
            rw [← bv_append] at hown2
            obtain ⟨A6, c6, rfl, -⟩ := own_form hown2
            have B35 : Hid (Below w3.heap.size w3 w5) := Lib.hid ((HB4.out.alloc HB4.out.size (.cells #[.int .u8 (sm / 256), .int .u8 (sm % 256)] 5)).grown hgr2 (by have h2 := HB4.out.size; simp; omega) (fun k hk => (HO4.out.lt k hk).1))
            have B5 : Hid (Below W.heap.size W w5) := Lib.hid (HBW.out.trans (B35.out.mono HBW.out.size))
            have S6 := Lib.hid (Src.of_own hown2)
            clear hown2 hgr2
            go_wp2_with fail
            refine (SUMX.out _ (SX.out _ B35.out)).mono ?_
            rintro e w6 ⟨rfl, rfl⟩
            go_wp2_with fail
            have hl2 : (l ++ [sm / 256, sm % 256]).length = l.length + 2 := by simp
            have hsx := sum_any (l ++ [sm / 256, sm % 256]) SMALL.out (by rw [hl2]; omega) A6 c6 w6 (by rw [hl2]; exact S6.out)
            rw [hl2, HALL.out] at hsx
            refine hsx.mono ?_
            clear hsx hl2
            rintro e w7 ⟨rfl, rfl⟩
            go_wp2_with fail
            go_ret
            exact ⟨rfl, B5.out⟩
    · have h2b : (((l.length : Int) % 2) != 0) = true := by rw [bne_iff_ne]; omega
      clear h2
      go_wp2_with fail
      go_ret
      exact ⟨rfl, HB0.out⟩
end Go.Proofs.Ytjembpchgemhnaa.Head
