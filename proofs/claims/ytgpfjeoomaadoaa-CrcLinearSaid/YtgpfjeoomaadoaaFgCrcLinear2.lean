/- The walk of the law CrcLinear of floodgate's crc layer. There are no conditions. -/
import Derived.Test.YtgpfjeoomaadoaaFgCrcLinear
import Derived.Test.YtgpfjeoomaadoaaFgCrcOpen
import Derived.Deep.RegionHeld3
import Derived.Deep.RegionWith
import Derived.Deep.DeepCutAuto
import Derived.Deep.CutBlock
import Derived.Test.YtgpfjeoomaadoaaFgWords
namespace Go.Proofs.Ytgpfjeoomaadoaa.Crc
open Go.RowKit Go.Proofs.Ytgpfjeoomaadoaa.Fg Go.ChangeShapes Go.WideShapes Go.ChangeAt

theorem make_bytes (n : Nat) (hn : n ≤ 1000000) (u : World) : (Instr.makeSlice 22 (.int .i64 n) (.int .i64 n)).run Try.prog u =
    .ok (.slice (some ⟨u.heap.size, 0, none⟩) n n) (u.alloc (.cells (madeCells #[.int .u8 0] n) 5)) := by
  obtain ⟨i0, hi, hz0, hz1, hz2⟩ := info_parts info_u8
  have h := run_make (P := Try.prog) u 22 5 i0 (.int .u8 0) Try.underlying22 hi hz0 .i64 .i64 n n (by omega) (Int.le_refl _) (by rw [hz2]; omega) (by omega)
  have e : (n : Int).toNat = n := by omega
  rw [e] at h
  simpa [hz1, Value.cells] using h
def at0 (l : List Int) (j : Nat) : Int := l.getD j 0
/-- The three texts' bytes so far, in their row. -/
def XRow (X n : Nat) (la lb lc : List Int) (j : Nat) (w : World) : Prop :=
  ∃ cur : Array Value, w.heap[X]? = some (.cells cur 5 (0, 0)) ∧ cur.size = n ∧ ∀ q, q < j → cur[q]? = some (.int .u8 (x3 (at0 la q) (at0 lb q) (at0 lc q)))
theorem XRow.step {X n : Nat} {la lb lc : List Int} {j : Nat} {w : World} (h : XRow X n la lb lc j w) (hj : j < n) {a b c : Int} (ha : at0 la j = a) (hb : at0 lb j = b) (hc : at0 lc j = c) :
    XRow X n la lb lc (j + 1) (w.setCell ⟨X, j, none⟩ (.int .u8 (x3 a b c))) := by
  obtain ⟨cur, h1, h2, h3⟩ := h
  subst ha hb hc
  refine ⟨_, hset_at _ _ _ _ h1, by simpa using h2, fun q hq => ?_⟩
  rw [Array.getElem?_setIfInBounds]
  by_cases e : j = q
  · subst e
    rw [if_pos rfl, if_pos (by omega)]
  · rw [if_neg e]
    exact h3 q (by omega)
theorem XRow.src {X n : Nat} {la lb lc : List Int} {w : World} (h : XRow X n la lb lc n w) (na : n ≤ la.length) (nb : n ≤ lb.length) (nc : n ≤ lc.length) (hn : n ≤ 1000000) : Src w (some ⟨X, 0, none⟩) n n (bv (xs3 (la.take n) (lb.take n) (lc.take n))) := by
  obtain ⟨cur, h1, h2, h3⟩ := h
  have e1 : (la.take n).length = n := by rw [List.length_take]; omega
  have e2 : (lb.take n).length = n := by rw [List.length_take]; omega
  have e3 : (lc.take n).length = n := by rw [List.length_take]; omega
  have hl := xs3_length (la.take n) (lb.take n) (lc.take n) (by omega) (by omega)
  refine ⟨(fun h => by cases h), Nat.le_refl _, by simp only [maxLen]; omega, fun ad had q u hu => ?_⟩
  injection had with had
  subst had
  rw [Addr.add_lit, Nat.zero_add, cell_of_block h1]
  have hq : q < n := by
    have := (List.getElem?_eq_some_iff.1 hu).1
    rw [bv_length, hl] at this
    omega
  rw [h3 q hq]
  have g : ∀ l : List Int, n ≤ l.length → (l.take n)[q]? = some (at0 l q) := fun l hl => by
    rw [List.getElem?_take_of_lt hq, at0, List.getD_eq_getElem?_getD, List.getElem?_eq_getElem (by omega : q < l.length)]
    rfl
  have hg := xs3_get _ _ _ q _ _ _ (g la na) (g lb nb) (g lc nc)
  rw [← hu, bv, List.getElem?_map, hg]
  rfl

/-- A row of one slice, in new memory. -/
def PartsWord (l : List Int) (u : Value) (w : World) : Prop := ∃ A c, u = .slice A 1 c ∧ Parts w A c [l]
theorem partsWord_stand {l : List Int} {I : World → Prop} : ∀ (u : Value) (w w' : World), PartsWord l u w → I w → Below w.heap.size w w' → PartsWord l u w' := by
  rintro u w w' ⟨A, c, rfl, h⟩ _ hb
  exact ⟨A, c, rfl, h.same fun k hk => hb.block k hk⟩
set_option linter.unusedSimpArgs false in
set_option maxRecDepth 100000 in
set_option maxHeartbeats 4000000 in
theorem linear_any (la lb lc : List Int) (ha : Small la) (hb : Small lb) (hc : Small lc) (A B C : Option Addr) (c d f : Nat) (W : World) (hsa : Src W A la.length c (bv la)) (hsb : Src W B lb.length d (bv lb)) (hsc : Src W C lc.length f (bv lc)) :
    Calls Try.prog 4 #[.slice A la.length c, .slice B lb.length d, .slice C lc.length f] W fun e w' => e = .returned (.bool true) ∧ Below W.heap.size W w' := by
  have HA := Lib.hid ha
  have HB := Lib.hid hb
  have HC := Lib.hid hc
  have SA : Hid (∀ w', Below W.heap.size W w' → Src w' A la.length c (bv la)) := Lib.hid (fun w' hb => hsa.same fun ad had hne => hb.block _ (hsa.lt had hne))
  have SB : Hid (∀ w', Below W.heap.size W w' → Src w' B lb.length d (bv lb)) := Lib.hid (fun w' hb => hsb.same fun ad had hne => hb.block _ (hsb.lt had hne))
  have SC : Hid (∀ w', Below W.heap.size W w' → Src w' C lc.length f (bv lc)) := Lib.hid (fun w' hb => hsc.same fun ad had hne => hb.block _ (hsc.lt had hne))
  have ca := hsa.cap
  have cb := hsb.cap
  have cc := hsc.cap
  clear ha hb hc hsa hsb hsc
  go_enter Try.func4, Try.ntmps4
  go_wp2_with fail
  refine (alive_any W).mono ?_
  rintro e w0 ⟨rfl, hb0⟩
  have hs0 := hb0.size
  have HB0 := Lib.hid hb0
  clear hb0
  by_cases h1 : 500 < (la.length : Int)
  · go_wp2_with fail
    go_ret
    exact ⟨rfl, HB0.out⟩
  · by_cases h2 : 500 < (lb.length : Int)
    · go_wp2_with fail
      go_ret
      exact ⟨rfl, HB0.out⟩
    · by_cases h3 : 500 < (lc.length : Int)
      · go_wp2_with fail
        go_ret
        exact ⟨rfl, HB0.out⟩
      · go_upto_region 5 with fail
        go_cut [7] (fun s7 wx => ∃ n : Nat, s7 = .int .i64 n ∧ n ≤ la.length ∧ n ≤ lb.length ∧ n ≤ lc.length ∧ w0 = wx)
        case first =>
          go_wp2_with fail
          all_goals go_meet
          all_goals first | exact ⟨la.length, rfl, by omega, by omega, by omega, rfl⟩ | exact ⟨lb.length, rfl, by omega, by omega, by omega, rfl⟩ | exact ⟨lc.length, rfl, by omega, by omega, by omega, rfl⟩
        case rest =>
          obtain ⟨n, rfl, na, nb, nc, rfl⟩ := hcut
          have hmk := make_bytes n (by omega) w0
          have inv0 : XRow w0.heap.size n la lb lc 0 (w0.alloc (.cells (madeCells #[.int .u8 0] n) 5)) := ⟨_, heap_alloc_at w0 _, by simp [madeCells], fun q hq => by omega⟩
          have INV0 := Lib.hid inv0
          have HB1 := Lib.hid (HB0.out.alloc hs0 (.cells (madeCells #[.int .u8 0] n) 5))
          clear inv0
          go_wp2_with fail
          clear hmk
          go_loopg [36] n (fun k i wr => ∃ j : Nat, j + k = n ∧ i = .int .i64 j ∧ XRow w0.heap.size n la lb lc j wr ∧ Below W.heap.size W wr)
          case atStart => exact ⟨0, Nat.zero_add _, rfl, INV0.out, HB1.out⟩
          case round =>
            obtain ⟨j, hj, rfl, inv, hbel⟩ := hrel
            clear INV0 HB1
            by_cases hlt : j < n
            · have i1 : j < la.length := by omega
              have i2 : j < lb.length := by omega
              have i3 : j < lc.length := by omega
              obtain ⟨ad, rfl, za⟩ := src_byte (SA.out wr hbel) (by omega : j < la.length)
              obtain ⟨bd, rfl, zb⟩ := src_byte (SB.out wr hbel) (by omega : j < lb.length)
              obtain ⟨cd, rfl, zc⟩ := src_byte (SC.out wr hbel) (by omega : j < lc.length)
              have ea : at0 la j = la[j] := by rw [at0, List.getD_eq_getElem?_getD, List.getElem?_eq_getElem (by omega : j < la.length)]; rfl
              have eb : at0 lb j = lb[j] := by rw [at0, List.getD_eq_getElem?_getD, List.getElem?_eq_getElem (by omega : j < lb.length)]; rfl
              have ec : at0 lc j = lc[j] := by rw [at0, List.getD_eq_getElem?_getD, List.getElem?_eq_getElem (by omega : j < lc.length)]; rfl
              obtain ⟨cur, k1, k2, -⟩ := id inv
              obtain ⟨xj, zx⟩ : ∃ xj, wr.cell? ⟨w0.heap.size, j, none⟩ = some xj := ⟨cur[j], by rw [cell_of_block k1 j]; exact Array.getElem?_eq_getElem (by omega)⟩
              have fx : wr.frozen? ⟨w0.heap.size, j, none⟩ = false := free_of_block k1 j
              have old : ∀ (p : Addr) (v : Value), p.block < W.heap.size → (wr.setCell ⟨w0.heap.size, j, none⟩ v).cell? p = wr.cell? p := fun p v hp => World.cell?_of_block (hset_other _ _ _ (by show p.block ≠ w0.heap.size; omega))
              have hbk : ∀ (a : Addr), (a.add j).block = a.block := fun a => by unfold Addr.add; split <;> rfl
              have ZA : Hid (∀ v, (wr.setCell ⟨w0.heap.size, j, none⟩ v).drew.cell? (ad.add j) = some (.int .u8 la[j])) := Lib.hid (fun v => Eq.trans (old _ v (by rw [hbk]; exact (SA.out W (Below.refl _ _)).lt rfl (by simp [bv]; intro e; subst e; simp at i1))) za)
              have ZB : Hid (∀ v, (wr.setCell ⟨w0.heap.size, j, none⟩ v).drew.cell? (bd.add j) = some (.int .u8 lb[j])) := Lib.hid (fun v => Eq.trans (old _ v (by rw [hbk]; exact (SB.out W (Below.refl _ _)).lt rfl (by simp [bv]; intro e; subst e; simp at i2))) zb)
              have ZC : Hid (∀ v, (wr.setCell ⟨w0.heap.size, j, none⟩ v).drew.cell? (cd.add j) = some (.int .u8 lc[j])) := Lib.hid (fun v => Eq.trans (old _ v (by rw [hbk]; exact (SC.out W (Below.refl _ _)).lt rfl (by simp [bv]; intro e; subst e; simp at i3))) zc)
              clear old hbk
              have INV := Lib.hid inv
              have HBL := Lib.hid hbel
              have EA := Lib.hid ea
              have EB := Lib.hid eb
              have EC := Lib.hid ec
              clear inv hbel k1 k2 ea eb ec
              generalize la[j] = aj at *
              generalize lb[j] = bj at *
              generalize lc[j] = cj at *
              go_wp2_with fail
              go_region_held3 (fun w' => w'.cell? (ad.add j) = some (.int .u8 aj) ∧ w'.cell? (bd.add j) = some (.int .u8 bj) ∧ w'.cell? (cd.add j) = some (.int .u8 cj)) (first | exact ⟨ZA.out _, ZB.out _, ZC.out _⟩ | go_keep) ((fail))
              go_wp2_with fail
              go_roundg (gk - 1)
              case measure => omega
              case rel => exact ⟨j + 1, by omega, by go_num, INV.out.step hlt EA.out EB.out EC.out, below_drewN (HBL.out.setCell (by simpa using hs0) _) 1⟩
            · obtain rfl : j = n := by omega
              have lt1 : (la.take j).length = j := by rw [List.length_take]; omega
              have lt2 : (lb.take j).length = j := by rw [List.length_take]; omega
              have lt3 : (lc.take j).length = j := by rw [List.length_take]; omega
              have cutS : ∀ (w' : World) (A : Option Addr) (c : Nat) (l : List Int), j ≤ l.length → Src w' A l.length c (bv l) → Src w' A (l.take j).length c (bv (l.take j)) := fun w' A c l hl h => by
                have e1 : (l.take j).length = j := by rw [List.length_take]; omega
                refine ⟨fun hA => ⟨by have := (h.nil hA).1; omega, (h.nil hA).2⟩, by have := h.cap; omega, h.most, fun ad had q u hu => ?_⟩
                refine h.cells ad had q u ?_
                simp only [bv, List.getElem?_map] at hu ⊢
                have hq : q < j := by
                  rcases Nat.lt_or_ge q j with h | h
                  · exact h
                  · rw [List.getElem?_eq_none (by omega)] at hu; cases hu
                rw [List.getElem?_take_of_lt hq] at hu
                exact hu
              have SA1 : Hid (∀ w', Below W.heap.size W w' → Src w' A j c (bv (la.take j))) := Lib.hid (fun w' h => by have := cutS w' A c la na (SA.out w' h); rw [lt1] at this; exact this)
              have SB1 : Hid (∀ w', Below W.heap.size W w' → Src w' B j d (bv (lb.take j))) := Lib.hid (fun w' h => by have := cutS w' B d lb nb (SB.out w' h); rw [lt2] at this; exact this)
              have SC1 : Hid (∀ w', Below W.heap.size W w' → Src w' C j f (bv (lc.take j))) := Lib.hid (fun w' h => by have := cutS w' C f lc nc (SC.out w' h); rw [lt3] at this; exact this)
              have HX := Lib.hid inv
              have HBL := Lib.hid hbel
              clear inv hbel cutS
              have hlx : (xs3 (la.take j) (lb.take j) (lc.take j)).length = j := by rw [xs3_length _ _ _ (by omega) (by omega)]; exact lt1
              have smt : ∀ l : List Int, Small l → Small (l.take j) := fun l h x hx => h x (List.mem_of_mem_take hx)
              have hsum := sum_x3 (la.take j) (lb.take j) (lc.take j) (smt la HA.out) (smt lb HB.out) (smt lc HC.out) (by omega) (by omega)
              have HSX := Lib.hid (xs3_small _ _ _ (smt la HA.out) (smt lb HB.out) (smt lc HC.out))
              have HSA := Lib.hid (smt la HA.out)
              have HSB := Lib.hid (smt lb HB.out)
              have HSC := Lib.hid (smt lc HC.out)
              generalize hsx : sumOf (xs3 (la.take j) (lb.take j) (lc.take j)) = sx at hsum
              generalize hsa : sumOf (la.take j) = sa at hsum
              generalize hsb : sumOf (lb.take j) = sb at hsum
              generalize hsc : sumOf (lc.take j) = sc at hsum
              have hq : bits .xor .u32 (bits .xor .u32 (sa.toNat : Int) (sb.toNat : Int)) (sc.toNat : Int) = (sx.toNat : Int) := by rw [x_xor, x_xor, hsum]
              have OX : Hid (∀ (A : Option Addr) (c : Nat) (w : World), Parts w A c [xs3 (la.take j) (lb.take j) (lc.take j)] → Calls Try.prog 8 #[.slice A 1 c] w fun e w' => e = .returned (.int .u32 sx.toNat) ∧ w' = w) := Lib.hid (fun A c w h => by
                have := of_one _ HSX.out (by omega) A c w h; rw [hsx] at this; exact this)
              have OA : Hid (∀ (A : Option Addr) (c : Nat) (w : World), Parts w A c [la.take j] → Calls Try.prog 8 #[.slice A 1 c] w fun e w' => e = .returned (.int .u32 sa.toNat) ∧ w' = w) := Lib.hid (fun A c w h => by
                have := of_one _ HSA.out (by omega) A c w h; rw [hsa] at this; exact this)
              have OB : Hid (∀ (A : Option Addr) (c : Nat) (w : World), Parts w A c [lb.take j] → Calls Try.prog 8 #[.slice A 1 c] w fun e w' => e = .returned (.int .u32 sb.toNat) ∧ w' = w) := Lib.hid (fun A c w h => by
                have := of_one _ HSB.out (by omega) A c w h; rw [hsb] at this; exact this)
              have OC : Hid (∀ (A : Option Addr) (c : Nat) (w : World), Parts w A c [lc.take j] → Calls Try.prog 8 #[.slice A 1 c] w fun e w' => e = .returned (.int .u32 sc.toNat) ∧ w' = w) := Lib.hid (fun A c w h => by
                have := of_one _ HSC.out (by omega) A c w h; rw [hsc] at this; exact this)
              have hX := HX.out.src na nb nc (by omega)
              have hXl : w0.heap.size < wr.heap.size := block_lt HX.out.choose_spec.1
              have TX : Hid (∀ w', Below wr.heap.size wr w' → Src w' (some ⟨w0.heap.size, 0, none⟩) j j (bv (xs3 (la.take j) (lb.take j) (lc.take j)))) := Lib.hid (fun w' h => hX.same fun ad had _ => by
                injection had with had; subst had; exact h.block _ hXl)
              have hWr := HBL.out.size
              have TA : Hid (∀ w', Below wr.heap.size wr w' → Src w' A j c (bv (la.take j))) := Lib.hid (fun w' h => SA1.out w' (HBL.out.trans (h.mono hWr)))
              have TB : Hid (∀ w', Below wr.heap.size wr w' → Src w' B j d (bv (lb.take j))) := Lib.hid (fun w' h => SB1.out w' (HBL.out.trans (h.mono hWr)))
              have TC : Hid (∀ w', Below wr.heap.size wr w' → Src w' C j f (bv (lc.take j))) := Lib.hid (fun w' h => SC1.out w' (HBL.out.trans (h.mono hWr)))
              have L1 := Lib.hid lt1
              have L2 := Lib.hid lt2
              have L3 := Lib.hid lt3
              have LX := Lib.hid hlx
              have hz : wr.heap.size ≤ wr.heap.size := Nat.le_refl _
              clear hX hlx smt hsum hsx hsa hsb hsc HSX HSA HSB HSC SA1 SB1 SC1 lt1 lt2 lt3
              have jc : j ≤ c := by omega
              have jd : j ≤ d := by omega
              have jf : j ≤ f := by omega
              go_upto_region 12 with fail
              apply wp_region_words (fun w w' => Below w.heap.size w w') (fun w' => Below wr.heap.size wr w')
                [isVal _, PartsWord (xs3 (la.take j) (lb.take j) (lc.take j)), isVal (.int .u32 sx.toNat), isVal _, isVal _, isVal _, PartsWord (la.take j), isVal (.int .u32 sa.toNat), isVal _, isVal _, isVal _, PartsWord (lb.take j), isVal (.int .u32 sb.toNat), isVal _, isVal _, isVal _, isVal _, PartsWord (lc.take j), isVal (.int .u32 sc.toNat), isVal _, isVal _, isVal _]
                [[], [0], [1], [], [], [3, 4], [5], [6], [], [], [8, 9], [10], [11], [7, 12], [], [], [14, 15], [16], [17], [13, 18], [2, 19], [20]] [0, 1, 2, 3, 4, 5, 6, 7, 8, 9, 10, 11, 12, 13, 14, 15, 16, 17, 18, 19, 20, 21] (by kernel_rfl) (by kernel_rfl) ?hF ?stand ?hI ?steps ?fin
              case hF => intro v; simp [fillFrom, Act.put]; rfl
              case stand =>
                repeat' (first | exact trivial | (refine And.intro ?_ ?_))
                all_goals first | exact partsWord_stand | (intro u w w' h _ _; exact h)
              case hI => exact below_dr (Below.refl _ _)
              case steps =>
                refine And.intro ?_ ?_
                · intro v w' hI hd K hK
                  simp only [allOf, word, List.getD_cons_zero, List.getD_cons_succ, isVal, and_true, true_and] at hd
                  have HK := Lib.hid hK
                  clear hK
                  go_simp
                  exact HK.out _ _ rfl hI (Below.refl _ _)
                refine And.intro ?_ ?_
                · intro v w' hI hd K hK
                  simp only [allOf, word, List.getD_cons_zero, List.getD_cons_succ, isVal, and_true, true_and] at hd
                  try simp only [hd] at hK
                  have HK := Lib.hid hK
                  clear hK
                  go_simp
                  exact HK.out _ _ ⟨_, _, rfl, parts_w rfl LX.out (TX.out _ hI)⟩ (hI.alloc hI.size _) ((Below.refl _ _).alloc (Nat.le_refl _) _)
                refine And.intro ?_ ?_
                · intro v w' hI hd K hK
                  simp only [allOf, word, List.getD_cons_zero, List.getD_cons_succ, isVal, and_true, true_and] at hd
                  obtain ⟨A5, c5, h1, hs⟩ := hd
                  simp only [h1] at hK
                  have HK := Lib.hid hK
                  clear hK
                  go_simp
                  refine (OX.out _ _ _ hs).mono ?_
                  rintro e w5 ⟨rfl, rfl⟩
                  exact HK.out _ _ rfl hI (Below.refl _ _)
                refine And.intro ?_ ?_
                · intro v w' hI hd K hK
                  simp only [allOf, word, List.getD_cons_zero, List.getD_cons_succ, isVal, and_true, true_and] at hd
                  have HK := Lib.hid hK
                  clear hK
                  go_simp
                  exact HK.out _ _ rfl hI (Below.refl _ _)
                refine And.intro ?_ ?_
                · intro v w' hI hd K hK
                  simp only [allOf, word, List.getD_cons_zero, List.getD_cons_succ, isVal, and_true, true_and] at hd
                  have HK := Lib.hid hK
                  clear hK
                  go_simp
                  exact HK.out _ _ rfl hI (Below.refl _ _)
                refine And.intro ?_ ?_
                · intro v w' hI hd K hK
                  simp only [allOf, word, List.getD_cons_zero, List.getD_cons_succ, isVal, and_true, true_and] at hd
                  try simp only [hd] at hK
                  have HK := Lib.hid hK
                  clear hK
                  go_simp
                  exact HK.out _ _ rfl hI (Below.refl _ _)
                refine And.intro ?_ ?_
                · intro v w' hI hd K hK
                  simp only [allOf, word, List.getD_cons_zero, List.getD_cons_succ, isVal, and_true, true_and] at hd
                  try simp only [hd] at hK
                  have HK := Lib.hid hK
                  clear hK
                  go_simp
                  exact HK.out _ _ ⟨_, _, rfl, parts_w rfl L1.out (TA.out _ hI)⟩ (hI.alloc hI.size _) ((Below.refl _ _).alloc (Nat.le_refl _) _)
                refine And.intro ?_ ?_
                · intro v w' hI hd K hK
                  simp only [allOf, word, List.getD_cons_zero, List.getD_cons_succ, isVal, and_true, true_and] at hd
                  obtain ⟨A5, c5, h6, hs⟩ := hd
                  simp only [h6] at hK
                  have HK := Lib.hid hK
                  clear hK
                  go_simp
                  refine (OA.out _ _ _ hs).mono ?_
                  rintro e w5 ⟨rfl, rfl⟩
                  exact HK.out _ _ rfl hI (Below.refl _ _)
                refine And.intro ?_ ?_
                · intro v w' hI hd K hK
                  simp only [allOf, word, List.getD_cons_zero, List.getD_cons_succ, isVal, and_true, true_and] at hd
                  have HK := Lib.hid hK
                  clear hK
                  go_simp
                  exact HK.out _ _ rfl hI (Below.refl _ _)
                refine And.intro ?_ ?_
                · intro v w' hI hd K hK
                  simp only [allOf, word, List.getD_cons_zero, List.getD_cons_succ, isVal, and_true, true_and] at hd
                  have HK := Lib.hid hK
                  clear hK
                  go_simp
                  exact HK.out _ _ rfl hI (Below.refl _ _)
                refine And.intro ?_ ?_
                · intro v w' hI hd K hK
                  simp only [allOf, word, List.getD_cons_zero, List.getD_cons_succ, isVal, and_true, true_and] at hd
                  try simp only [hd] at hK
                  have HK := Lib.hid hK
                  clear hK
                  go_simp
                  exact HK.out _ _ rfl hI (Below.refl _ _)
                refine And.intro ?_ ?_
                · intro v w' hI hd K hK
                  simp only [allOf, word, List.getD_cons_zero, List.getD_cons_succ, isVal, and_true, true_and] at hd
                  try simp only [hd] at hK
                  have HK := Lib.hid hK
                  clear hK
                  go_simp
                  exact HK.out _ _ ⟨_, _, rfl, parts_w rfl L2.out (TB.out _ hI)⟩ (hI.alloc hI.size _) ((Below.refl _ _).alloc (Nat.le_refl _) _)
                refine And.intro ?_ ?_
                · intro v w' hI hd K hK
                  simp only [allOf, word, List.getD_cons_zero, List.getD_cons_succ, isVal, and_true, true_and] at hd
                  obtain ⟨A5, c5, h11, hs⟩ := hd
                  simp only [h11] at hK
                  have HK := Lib.hid hK
                  clear hK
                  go_simp
                  refine (OB.out _ _ _ hs).mono ?_
                  rintro e w5 ⟨rfl, rfl⟩
                  exact HK.out _ _ rfl hI (Below.refl _ _)
                refine And.intro ?_ ?_
                · intro v w' hI hd K hK
                  simp only [allOf, word, List.getD_cons_zero, List.getD_cons_succ, isVal, and_true, true_and] at hd
                  try simp only [hd] at hK
                  have HK := Lib.hid hK
                  clear hK
                  go_simp
                  exact HK.out _ _ rfl hI (Below.refl _ _)
                refine And.intro ?_ ?_
                · intro v w' hI hd K hK
                  simp only [allOf, word, List.getD_cons_zero, List.getD_cons_succ, isVal, and_true, true_and] at hd
                  have HK := Lib.hid hK
                  clear hK
                  go_simp
                  exact HK.out _ _ rfl hI (Below.refl _ _)
                refine And.intro ?_ ?_
                · intro v w' hI hd K hK
                  simp only [allOf, word, List.getD_cons_zero, List.getD_cons_succ, isVal, and_true, true_and] at hd
                  have HK := Lib.hid hK
                  clear hK
                  go_simp
                  exact HK.out _ _ rfl hI (Below.refl _ _)
                refine And.intro ?_ ?_
                · intro v w' hI hd K hK
                  simp only [allOf, word, List.getD_cons_zero, List.getD_cons_succ, isVal, and_true, true_and] at hd
                  try simp only [hd] at hK
                  have HK := Lib.hid hK
                  clear hK
                  go_simp
                  exact HK.out _ _ rfl hI (Below.refl _ _)
                refine And.intro ?_ ?_
                · intro v w' hI hd K hK
                  simp only [allOf, word, List.getD_cons_zero, List.getD_cons_succ, isVal, and_true, true_and] at hd
                  try simp only [hd] at hK
                  have HK := Lib.hid hK
                  clear hK
                  go_simp
                  exact HK.out _ _ ⟨_, _, rfl, parts_w rfl L3.out (TC.out _ hI)⟩ (hI.alloc hI.size _) ((Below.refl _ _).alloc (Nat.le_refl _) _)
                refine And.intro ?_ ?_
                · intro v w' hI hd K hK
                  simp only [allOf, word, List.getD_cons_zero, List.getD_cons_succ, isVal, and_true, true_and] at hd
                  obtain ⟨A5, c5, h17, hs⟩ := hd
                  simp only [h17] at hK
                  have HK := Lib.hid hK
                  clear hK
                  go_simp
                  refine (OC.out _ _ _ hs).mono ?_
                  rintro e w5 ⟨rfl, rfl⟩
                  exact HK.out _ _ rfl hI (Below.refl _ _)
                refine And.intro ?_ ?_
                · intro v w' hI hd K hK
                  simp only [allOf, word, List.getD_cons_zero, List.getD_cons_succ, isVal, and_true, true_and] at hd
                  try simp only [hd] at hK
                  have HK := Lib.hid hK
                  clear hK
                  go_simp
                  exact HK.out _ _ rfl hI (Below.refl _ _)
                refine And.intro ?_ ?_
                · intro v w' hI hd K hK
                  simp only [allOf, word, List.getD_cons_zero, List.getD_cons_succ, isVal, and_true, true_and] at hd
                  try simp only [hd] at hK
                  have HK := Lib.hid hK
                  clear hK
                  go_simp
                  exact HK.out _ _ rfl hI (Below.refl _ _)
                refine And.intro ?_ ?_
                · intro v w' hI hd K hK
                  simp only [allOf, word, List.getD_cons_zero, List.getD_cons_succ, isVal, and_true, true_and] at hd
                  try simp only [hd] at hK
                  have HK := Lib.hid hK
                  clear hK
                  go_simp
                  exact HK.out _ _ rfl hI (Below.refl _ _)
                exact trivial
              intro v w4 hI hd
              simp only [allOf, word, List.getD_cons_zero, List.getD_cons_succ, isVal, and_true, true_and] at hd
              obtain ⟨h0, ⟨A1, c1, h1, -⟩, h2, h3, h4, h5, ⟨A2, c2, h6, -⟩, h7, h8, h9, h10, ⟨A3, c3, h11, -⟩, h12, h13, h14, h15, h16, ⟨A4, c4, h17, -⟩, h18, h19, h20, h21⟩ := hd
              simp only [h0, h1, h2, h3, h4, h5, h6, h7, h8, h9, h10, h11, h12, h13, h14, h15, h16, h17, h18, h19, h20, h21]
              clear h0 h1 h2 h3 h4 h5 h6 h7 h8 h9 h10 h11 h12 h13 h14 h15 h16 h17 h18 h19 h20 h21
              go_wp2_with fail
              go_ret
              exact ⟨rfl, HBL.out.trans (hI.mono hWr)⟩

set_option maxRecDepth 100000 in
theorem linear_lifted (os : Os) (started : os.Started) (H : Type) (enc : TypeId × Value → H) :
    ReturnsInHanded {} Try.checked os 4 .any (Rows.crcLinearSpec.pre6 enc Try.prog Try.f4 Rows.crcLinearRow.domain false) (Rows.crcLinearSpec.post enc Try.prog Try.f4 false true false false) := by
  refine law_lifted (C := Try.checked) laidOut own started (by kernel_rfl) Try.func4 rfl Try.underlying4 (by kernel_rfl) rfl
    (ChangeSpec.witness6 (enc := enc) (C := Try.checked) false ⟨#[], #[.slice none 0 0, .slice none 0 0, .slice none 0 0], []⟩ 8 (by kernel_rfl) (by kernel_rfl) (by kernel_rfl) (by kernel_rfl)) ?_
  intro W base args ds p hval0 hA0 _ hsz0
  have hval : ∀ (j : Nat) t v, Try.f4.params[j]? = some t → args[j]? = some v → Value.okWide Try.prog W .any base t v := hval0
  have hA : DataW.TrodAll enc Try.prog W 0 (fun _ => true) true Try.f4.params.toList args ds p := hA0
  have hsz : (DataW.weightsEach Try.prog Try.f4.params.toList ds).all (· ≤ reachBytes) = true := hsz0
  rw [Try.params4] at hA hval hsz
  obtain ⟨v0, vs0, d0, ds0, p0, q0, rfl, rfl, rfl, h0, r0⟩ := trodAll_cons hA
  obtain ⟨v1, vs1, d1, ds1, p1, q1, rfl, rfl, rfl, h1, r1⟩ := trodAll_cons r0
  obtain ⟨v2, vs2, d2, ds2, p2, q2, rfl, rfl, rfl, h2, r2⟩ := trodAll_cons r1
  obtain ⟨rfl, rfl, rfl⟩ := trodAll_nil r2
  obtain ⟨A, c, la, rfl, sa, ra, ba⟩ := open_bytes_arg (hval 0 _ v0 rfl rfl) h0 (fun n hn => of_decide_eq_true (List.all_eq_true.1 hsz n (DataW.weights_mem_each (j := 0) rfl rfl n hn)))
  obtain ⟨B, d, lb, rfl, sb, rb, bb⟩ := open_bytes_arg (hval 1 _ v1 rfl rfl) h1 (fun n hn => of_decide_eq_true (List.all_eq_true.1 hsz n (DataW.weights_mem_each (j := 1) rfl rfl n hn)))
  obtain ⟨C, f, lc, rfl, sc, rc, bc⟩ := open_bytes_arg (hval 2 _ v2 rfl rfl) h2 (fun n hn => of_decide_eq_true (List.all_eq_true.1 hsz n (DataW.weights_mem_each (j := 2) rfl rfl n hn)))
  exact ⟨rfl, linear_any la lb lc ba bb bc A B C c d f W sa sb sc⟩
end Go.Proofs.Ytgpfjeoomaadoaa.Crc
namespace Go.Proofs.Ytgpfjeoomaadoaa
/-- The row, under a short name, for the claim. -/
theorem crcLinear_holds : Rows.CrcLinearSaid :=
  OpenClaim.holds_of_wide 4 Try.f4 rfl rfl rfl rfl rfl rfl rfl ⟨rfl, rfl, rfl, rfl, rfl⟩ rfl rfl rfl rfl rfl (by kernel_rfl) Try.func4 (by kernel_rfl)
    (of_decide_eq_true (by kernel_rfl)) (by unfold Func.isWrapper; first | (rw [if_pos (by decide +kernel)]; kernel_rfl) | (rw [if_neg (by decide +kernel)]; exact ⟨rfl, rfl⟩))
    (fun os started H enc _ => Crc.linear_lifted os started H enc)
#print axioms crcLinear_holds
end Go.Proofs.Ytgpfjeoomaadoaa
