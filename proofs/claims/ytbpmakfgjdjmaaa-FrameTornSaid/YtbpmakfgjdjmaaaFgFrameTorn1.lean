/- The walk of the law FrameTorn. There are no conditions beyond each lemma's own hypotheses. -/
import Derived.Test.YtbpmakfgjdjmaaaFgFrameTorn0
set_option linter.unusedVariables false
set_option linter.unusedSimpArgs false
namespace Go.Proofs.Ytbpmakfgjdjmaaa.Frame
open Go.RowKit Go.Proofs.Ytbpmakfgjdjmaaa.Fg Go.Proofs.Ytbpmakfgjdjmaaa.Crc Go.Proofs.Ytbpmakfgjdjmaaa.Disk

theorem made_12 {r : Rec} (hg : r.good) : r.made.length ≤ 12 ∧ 0 < r.made.length := by
  rw [Rec.made_length hg, Rec.many_of hg.1]; have := hg.1; omega
set_option maxRecDepth 100000 in
set_option maxHeartbeats 8000000 in
theorem torn_any (r : Rec) (hok : r.ok) (A : Option Addr) (c : Nat) (r2 : Rec) (hok2 : r2.ok) (A2 : Option Addr) (c2 : Nat) (A3 : Option Addr) (c3 : Nat) (keep : List Bool) (W : World)
    (hs : Fg.Src W A r.pay.length c (bv r.pay)) (hrb : r.pay.length ≤ reachBytes) (hs2 : Fg.Src W A2 r2.pay.length c2 (bv r2.pay)) (hrb2 : r2.pay.length ≤ reachBytes) (hs3 : Fg.Src W A3 keep.length c3 (blv keep)) :
    Calls Try.prog 7 #[recv A c r, recv A2 c2 r2, .slice A3 keep.length c3] W fun e w' => e = .returned (.bool true) ∧ Below W.heap.size W w' := by
  have S0 := Lib.hid hs
  have S2 := Lib.hid hs2
  have S3 := Lib.hid hs3
  clear hs hs2 hs3
  unfold recv
  go_enter Try.func7, Try.ntmps7
  go_upto_region 1 with fail
  have HG0 : Hid (((W.alloc (.cells #[.int .u64 r.seq, .int .u32 r.epoch, .slice A r.pay.length c] 30)).alloc (.cells #[.int .u64 r2.seq, .int .u32 r2.epoch, .slice A2 r2.pay.length c2] 30)).heap[W.heap.size]? = some (.cells #[.int .u64 r.seq, .int .u32 r.epoch, .slice A r.pay.length c] 30)) := Lib.hid (by
    rw [heap_alloc_old _ _ (by simp)]; exact heap_alloc_at W _)
  have HG1 : Hid (((W.alloc (.cells #[.int .u64 r.seq, .int .u32 r.epoch, .slice A r.pay.length c] 30)).alloc (.cells #[.int .u64 r2.seq, .int .u32 r2.epoch, .slice A2 r2.pay.length c2] 30)).heap[W.heap.size + 1]? = some (.cells #[.int .u64 r2.seq, .int .u32 r2.epoch, .slice A2 r2.pay.length c2] 30)) := Lib.hid (by
    have := heap_alloc_at (W.alloc (.cells #[.int .u64 r.seq, .int .u32 r.epoch, .slice A r.pay.length c] 30)) (.cells #[.int .u64 r2.seq, .int .u32 r2.epoch, .slice A2 r2.pay.length c2] 30)
    simpa using this)
  have B0 : Hid (Below W.heap.size W ((W.alloc (.cells #[.int .u64 r.seq, .int .u32 r.epoch, .slice A r.pay.length c] 30)).alloc (.cells #[.int .u64 r2.seq, .int .u32 r2.epoch, .slice A2 r2.pay.length c2] 30))) := Lib.hid (((Below.refl _ _).alloc (Nat.le_refl _) _).alloc (by simp) _)
  obtain ⟨w1, hw1⟩ : ∃ w1, (W.alloc (.cells #[.int .u64 r.seq, .int .u32 r.epoch, .slice A r.pay.length c] 30)).alloc (.cells #[.int .u64 r2.seq, .int .u32 r2.epoch, .slice A2 r2.pay.length c2] 30) = w1 := ⟨_, rfl⟩
  rw [hw1] at HG0 HG1 B0 ⊢
  clear hw1
  have hg := block_lt HG0.out
  have hg1 := block_lt HG1.out
  have CC : Hid (∀ w', Below w1.heap.size w1 w' → w'.cell? ⟨W.heap.size, 0, none⟩ = some (.int .u64 r.seq) ∧ w'.cell? ⟨W.heap.size, 1, none⟩ = some (.int .u32 r.epoch) ∧ w'.cell? ⟨W.heap.size, 2, none⟩ = some (.slice A r.pay.length c)) :=
    Lib.hid (fun w' hb => ⟨(hb.cell (p := ⟨W.heap.size, 0, none⟩) hg).trans (cell_of_block HG0.out 0), (hb.cell (p := ⟨W.heap.size, 1, none⟩) hg).trans (cell_of_block HG0.out 1), (hb.cell (p := ⟨W.heap.size, 2, none⟩) hg).trans (cell_of_block HG0.out 2)⟩)
  have CD : Hid (∀ w', Below w1.heap.size w1 w' → w'.cell? ⟨W.heap.size + 1, 0, none⟩ = some (.int .u64 r2.seq) ∧ w'.cell? ⟨W.heap.size + 1, 1, none⟩ = some (.int .u32 r2.epoch) ∧ w'.cell? ⟨W.heap.size + 1, 2, none⟩ = some (.slice A2 r2.pay.length c2)) :=
    Lib.hid (fun w' hb => ⟨(hb.cell (p := ⟨W.heap.size + 1, 0, none⟩) hg1).trans (cell_of_block HG1.out 0), (hb.cell (p := ⟨W.heap.size + 1, 1, none⟩) hg1).trans (cell_of_block HG1.out 1), (hb.cell (p := ⟨W.heap.size + 1, 2, none⟩) hg1).trans (cell_of_block HG1.out 2)⟩)
  have SA : Hid (∀ w', Below w1.heap.size w1 w' → Fg.Src w' A r.pay.length c (bv r.pay)) := Lib.hid (fun w' hb => S0.out.same fun ad had hne => ((B0.out.trans (hb.mono B0.out.size)).block _ (S0.out.lt had hne)))
  have SB : Hid (∀ w', Below w1.heap.size w1 w' → Fg.Src w' A2 r2.pay.length c2 (bv r2.pay)) := Lib.hid (fun w' hb => S2.out.same fun ad had hne => ((B0.out.trans (hb.mono B0.out.size)).block _ (S2.out.lt had hne)))
  have SK : Hid (∀ w', Below w1.heap.size w1 w' → Fg.Src w' A3 keep.length c3 (blv keep)) := Lib.hid (fun w' hb => S3.out.same fun ad had hne => ((B0.out.trans (hb.mono B0.out.size)).block _ (S3.out.lt had hne)))
  clear hg hg1 S0 S2 S3
  go_wp2_with fail
  refine (alive_any w1).mono ?_
  rintro e w2 ⟨rfl, hb2⟩
  have B2 := Lib.hid hb2
  obtain ⟨k0, k1, k2⟩ := CC.out w2 hb2
  obtain ⟨l0, l1, l2⟩ := CD.out w2 hb2
  clear hb2
  by_cases hout : 700 < r.pay.length ∨ 700 < r2.pay.length ∨ 40 < keep.length
  · rcases Nat.lt_or_ge 700 r.pay.length with h | h
    · have hbI : (700 : Int) < r.pay.length := by omega
      clear hout
      go_wp2_with fail
      go_ret
      exact ⟨rfl, B0.out.trans (B2.out.mono B0.out.size)⟩
    · have hbI : ¬ ((700 : Int) < r.pay.length) := by omega
      rcases Nat.lt_or_ge 700 r2.pay.length with h2 | h2
      · have hbI2 : (700 : Int) < r2.pay.length := by omega
        clear hout
        go_wp2_with fail
        go_ret
        exact ⟨rfl, B0.out.trans (B2.out.mono B0.out.size)⟩
      · have hbI2 : ¬ ((700 : Int) < r2.pay.length) := by omega
        have h3 : (40 : Int) < keep.length := by omega
        clear hout
        go_wp2_with fail
        go_ret
        exact ⟨rfl, B0.out.trans (B2.out.mono B0.out.size)⟩
  · have hbI : ¬ ((700 : Int) < r.pay.length) := by omega
    have hbI2 : ¬ ((700 : Int) < r2.pay.length) := by omega
    have hbI3 : ¬ ((40 : Int) < keep.length) := by omega
    have hd1 : decide ((700 : Int) < r.pay.length) = false := decide_eq_false hbI
    have hd2 : decide ((700 : Int) < r2.pay.length) = false := decide_eq_false hbI2
    have hd3 : decide ((40 : Int) < keep.length) = false := decide_eq_false hbI3
    have hl1 : r.pay.length ≤ 700 := by omega
    have hl2 : r2.pay.length ≤ 700 := by omega
    have hk40 : (keep.length : Int) ≤ 40 := by omega
    have MK : Hid (∀ A c w', Fg.Src w' A r.pay.length c (bv r.pay) → Calls Try.prog 9 #[.agg #[.int .u64 r.seq, .int .u32 r.epoch, .slice A r.pay.length c]] w' (MadeE r w')) := Lib.hid (fun A c w' h => make_any r hok (by omega) A c w' h)
    have MK2 : Hid (∀ A c w', Fg.Src w' A r2.pay.length c (bv r2.pay) → Calls Try.prog 9 #[.agg #[.int .u64 r2.seq, .int .u32 r2.epoch, .slice A r2.pay.length c]] w' (MadeE r2 w')) := Lib.hid (fun A c w' h => make_any r2 hok2 (by omega) A c w' h)
    clear hout
    go_wp2_with fail
    refine (MK.out A c w2 (SA.out _ B2.out)).mono ?_
    rintro e w4 ⟨A6, c6, rfl, ho4, hb4⟩
    have B4 : Hid (Below w1.heap.size w1 w4) := Lib.hid (B2.out.trans (hb4.mono B2.out.size))
    have SL := Lib.hid (SecsAt.of_own ho4 (Rec.made_secs hok.small))
    clear ho4 hb4 k0 k1 k2 l0 l1 l2
    obtain ⟨l0, l1, l2⟩ := CD.out w4 B4.out
    go_wp2_with fail
    refine (MK2.out A2 c2 w4 (SB.out _ B4.out)).mono ?_
    rintro e w5 ⟨A7, c7, rfl, ho5, hb5⟩
    have B5 : Hid (Below w1.heap.size w1 w5) := Lib.hid (B4.out.trans (hb5.mono B4.out.size))
    have SL5 := Lib.hid (SL.out.below hb5)
    have SN := Lib.hid (SecsAt.of_own ho5 (Rec.made_secs hok2.small))
    clear ho5 hb5 l0 l1 l2 SL MK MK2
    obtain ⟨k0, k1, k2⟩ := CC.out w5 B5.out
    obtain ⟨l0, l1, l2⟩ := CD.out w5 B5.out
    by_cases hgg : r.good ∧ r2.good
    · obtain ⟨hg, hg2⟩ := hgg
      have he : r.err = 0 := if_pos hg
      have he2 : r2.err = 0 := if_pos hg2
      have h12 := made_12 hg
      have h22 := made_12 hg2
      rw [he, he2]
      have HGG := Lib.hid (And.intro hg hg2)
      clear he he2 hg hg2
      obtain ⟨m1, hm1⟩ : ∃ m, r.made.length = m := ⟨_, rfl⟩
      obtain ⟨m2, hm2⟩ : ∃ m, r2.made.length = m := ⟨_, rfl⟩
      have HM1 := Lib.hid hm1
      have HM2 := Lib.hid hm2
      rw [hm1, hm2]
      rw [hm1] at h12
      rw [hm2] at h22
      clear hm1 hm2
      obtain ⟨h120, h121⟩ := h12
      obtain ⟨h220, h221⟩ := h22
      have hm2I : (m2 : Int) ≤ 12 := by omega
      have hmk := fun u => make_secs 12 (by decide) u
      simp only [show ((12 : Nat) : Int) = 12 from rfl] at hmk
      obtain ⟨b6, o6, rfl, hb6⟩ := SL5.out.some_of (by have := HM1.out; omega)
      obtain ⟨b7, o7, rfl, hb7⟩ := SN.out.some_of (by have := HM2.out; omega)
      have hc7 : m2 ≤ c7 := by have := SN.out.src.cap; have := HM2.out; omega
      have HFL := Lib.hid (heap_alloc_at w5 (.cells (List.replicate 12 (bv noSec)).flatten.toArray 44))
      have HSC : Hid (∀ j v, (sv r.made).flatten[j]? = some v → (w5.alloc (.cells (List.replicate 12 (bv noSec)).flatten.toArray 44)).cell? ((⟨b6, o6, none⟩ : Addr).add j) = some v) := Lib.hid (fun j v hv =>
        (SL5.out.below ((Below.refl w5.heap.size w5).alloc (Nat.le_refl _) _)).src.cells _ rfl j v hv)
      have hsl : (sv r.made).flatten.length = m1 * 64 := by rw [flat_len (sv_len (Rec.made_64 r))]; simp [sv, HM1.out]
      have HNC : Hid ((sv r.made).flatten.length = Nat.min m1 12 * 64) := Lib.hid (by rw [hsl, show Nat.min m1 12 = m1 from Nat.min_eq_left h120])
      have hrep : (List.replicate 12 (bv noSec)).flatten.length = 12 * 64 := by
        rw [flat_len (k := 64) (fun r hr => by rw [(List.mem_replicate.1 hr).2, bv_length, noSec64])]; simp
      have HFT : Hid (0 + (sv r.made).flatten.length ≤ (List.replicate 12 (bv noSec)).flatten.toArray.size) := Lib.hid (by rw [List.size_toArray, hrep, hsl]; omega)
      have HON : Hid (∀ u ∈ (sv r.made).flatten, u.oneCell' = true) := Lib.hid (by rw [sv_flat]; exact bv_one _)
      clear hsl hrep k0 k1 k2 l0 l1 l2
      have TW : Hid ((List.replicate 12 (bv noSec)).flatten.toArray.toList.take 0 ++ ((sv r.made).flatten ++ (List.replicate 12 (bv noSec)).flatten.toArray.toList.drop (0 + (sv r.made).flatten.length)) = (sv (twelve r.made)).flatten) := Lib.hid (twelve_cells (Rec.made_64 r) (by rw [HM1.out]; exact h120))
      have HBA : Hid (Below w5.heap.size w5 (w5.alloc (.cells (List.replicate 12 (bv noSec)).flatten.toArray 44))) := Lib.hid ((Below.refl _ _).alloc (Nat.le_refl _) _)
      go_wp2_with (refine wpList_copy_rows rfl (.tmp 62) (.tmp 63) 22 22 rfl 44 64 Try.underlying22 secSize w5.heap.size 0 12 12 ⟨b6, o6, none⟩ m1 c6 rfl rfl (List.replicate 12 (bv noSec)).flatten.toArray 44 HFL.out (sv r.made).flatten HNC.out HSC.out HFT.out HON.out _ TW.out w5.heap.size w5 HBA.out (Nat.le_refl _) ?_)
      intro w6 F0 BF
      have DOK : Hid (Secs (twelve r.made) ∧ (twelve r.made).length = 12 ∧ Secs r2.made) := Lib.hid ⟨twelve_ok (Rec.made_secs hok.small), twelve_length (by rw [HM1.out]; exact h120), Rec.made_secs hok2.small⟩
      clear TW HFL HSC HNC HFT HON hmk HBA
      go_wp2_with fail
      obtain ⟨D, hD⟩ : ∃ D, twelve r.made = D := ⟨_, rfl⟩
      rw [hD] at F0 DOK
      clear hD
      obtain ⟨q, hq⟩ : ∃ q, w5.heap.size = q := ⟨_, rfl⟩
      rw [hq] at F0 BF hb6 hb7 ⊢
      have HQ := Lib.hid hq
      clear hq
      have HB7 := Lib.hid hb7
      have SNN : Hid (∀ w', Below q w5 w' → SecsAt w' (some ⟨b7, o7, none⟩) c7 r2.made) := Lib.hid (fun w' hb => SN.out.below (by rw [HQ.out]; exact hb))
      have B1q : Hid (∀ w', Below q w5 w' → Below w1.heap.size w1 w') := Lib.hid (fun w' hb => B5.out.trans (hb.mono (by rw [← HQ.out]; exact B5.out.size)))
      go_loopg [12, 67] m2 (fun k u i wr => ∃ j : Nat, j + k = m2 ∧ i = .int .i64 j ∧ u = .bool (wholeTo D r2.made keep j) ∧ Flat wr q 44 (sv (mixed D r2.made keep j)) ∧ Below q w5 wr)
      case atStart => exact ⟨0, Nat.zero_add _, rfl, rfl, F0.out, BF.out⟩
      case round =>
        obtain ⟨j, hj, rfl, rfl, hfl, hbel⟩ := hrel
        have FJ := Lib.hid hfl
        have BJ := Lib.hid hbel
        clear hfl hbel F0 BF hb6 hb7
        by_cases hlt : j < m2
        · have hj12 : (j : Int) < 12 := by omega
          have hjK : j < r2.made.length := by have := HM2.out; omega
          have hs : r2.made[j]? = some r2.made[j] := List.getElem?_eq_getElem hjK
          have HGD : Hid (r2.made.getD j noSec = r2.made[j]) := Lib.hid (by rw [List.getD_eq_getElem?_getD, hs]; rfl)
          have R0 : Hid (wr.rangeAt b7 (o7 + j * 64) (bv r2.made[j])) := Lib.hid ((SNN.out wr BJ.out).range hs)
          have h64 := DOK.out.2.2.len _ (List.getElem_mem hjK)
          have MOK := Lib.hid (mixed_ok DOK.out.1 DOK.out.2.2 keep j)
          have MLN := Lib.hid ((mixed_length D r2.made keep j).trans DOK.out.2.1)
          have Z0 : Hid ((Try.prog.info? 44).map (·.size) = some (bv r2.made[j]).length) := Lib.hid (by rw [secSize, bv_length, h64])
          have Z1 := Lib.hid (sec_toArray h64)
          have Z3 := Lib.hid (sec_one r2.made[j])
          have H64 := Lib.hid h64
          have WN : Hid (wholeTo D r2.made keep (j + 1) = (wholeTo D r2.made keep j && decide ((mixed D r2.made keep (j + 1)).getD j noSec = r2.made.getD j noSec))) := Lib.hid rfl
          have MN : Hid (mixed D r2.made keep (j + 1) = if keep.getD j false then (mixed D r2.made keep j).set j (r2.made.getD j noSec) else mixed D r2.made keep j) := Lib.hid rfl
          have MOK1 := Lib.hid (mixed_ok DOK.out.1 DOK.out.2.2 keep (j + 1))
          have MLN1 := Lib.hid ((mixed_length D r2.made keep (j + 1)).trans DOK.out.2.1)
          clear hs h64
          have hkc := (SK.out wr (B1q.out _ BJ.out)).cap
          generalize r2.made[j] = t at *
          generalize wholeTo D r2.made keep j = wh at *
          go_upto_region 15 with fail
          go_cut [79] (fun s79 wx => s79 = .bool (keep.getD j false) ∧ wr = wx)
          case first =>
            by_cases hkl : j < keep.length
            · have hkI : (j : Int) < keep.length := by omega
              have hksrc := SK.out wr (B1q.out _ BJ.out)
              obtain ⟨ka, hka⟩ : ∃ ka, A3 = some ka := by
                cases A3 with
                | none => have := (hksrc.nil rfl).1; omega
                | some ka => exact ⟨ka, rfl⟩
              subst hka
              have hkcell : wr.cell? (ka.add j) = some (.bool keep[j]) := hksrc.cells ka rfl j _ (by simp [blv, hkl])
              have HKD : Hid (keep.getD j false = keep[j]) := Lib.hid (by rw [List.getD_eq_getElem?_getD, List.getElem?_eq_getElem hkl]; rfl)
              clear hksrc
              generalize keep[j] = kb at *
              go_wp2_with fail
              go_meet
              exact ⟨by rw [HKD.out], rfl⟩
            · have hkI : ¬ ((j : Int) < keep.length) := by omega
              have HKD : Hid (keep.getD j false = false) := Lib.hid (by rw [List.getD_eq_getElem?_getD, List.getElem?_eq_none (by omega)]; rfl)
              go_wp2_with fail
              go_meet
              exact ⟨by rw [HKD.out], rfl⟩
          case rest =>
          obtain ⟨rfl, rfl⟩ := hcut
          obtain ⟨kb, hkb⟩ : ∃ kb, keep.getD j false = kb := ⟨_, rfl⟩
          rw [hkb]
          rw [hkb] at MN
          clear hkb
          go_upto_if 79 with fail
          go_cut [] (fun wx => Flat wx q 44 (sv (mixed D r2.made keep (j + 1))) ∧ Below q w5 wx)
          case first =>
            cases kb
            · go_wp2_with fail
              go_meet
              exact ⟨by rw [MN.out]; exact FJ.out, BJ.out⟩
            · have TH : Hid (wr.there q (j * 64) (bv t).toArray.size) := Lib.hid (by
                have := FJ.out.there (sv_len MOK.out.len) j (by rw [sv, List.length_map, MLN.out]; omega)
                rw [List.size_toArray, bv_length, H64.out]
                exact this)
              have FN : Hid (Flat (wr.setCells q (j * 64) (bv t)) q 44 (sv (mixed D r2.made keep (j + 1)))) := Lib.hid (by
                rw [MN.out]
                have := FJ.out.store (sv_len MOK.out.len) j (by rw [sv, List.length_map, MLN.out]; omega) (bv t) (by rw [bv_length, H64.out])
                have e : sv (if true = true then (mixed D r2.made keep j).set j (r2.made.getD j noSec) else mixed D r2.made keep j) = (sv (mixed D r2.made keep j)).set j (bv t) := by
                  rw [if_pos rfl, HGD.out]; simp [sv, List.map_set]
                rw [e]
                exact this)
              have BN : Hid (Below q w5 (wr.setCells q (j * 64) (bv t))) := Lib.hid (by
                refine BJ.out.trans ?_
                obtain ⟨e1, e2, e3, e4⟩ := setCells_stays q (bv t) (j * 64) wr
                exact ⟨e1, e2, e3, by rw [e4]; exact Nat.le_refl _, fun k hk => heap_setCells_ne q _ _ wr (by omega)⟩)
              go_wp2_with (first
                | refine wpList_load_mid rfl 44 (.tmp 84) rfl b7 (o7 + j * 64) rfl (bv t) _ R0.out secUnder rfl Z0.out ?_
                | refine wpList_store_mid rfl 44 (.tmp 86) (.tmp 85) rfl q (j * 64) (bv t).toArray rfl rfl TH.out Z1.out Z3.out ?_)
              go_meet
              exact ⟨FN.out, BN.out⟩
          case rest =>
            have FC := Lib.hid hcut.1
            have BC := Lib.hid hcut.2
            clear hcut FJ BJ R0 MN
            generalize hwd : wc = wd at *
            clear hwd
            cases wh
            · go_upto_region 17 with fail
              go_quiet (fail)
              have F1 : Hid (Flat (wd.drewN nq) q 44 (sv (mixed D r2.made keep (j + 1)))) := Lib.hid (FC.out.same rfl)
              have B1 : Hid (Below q w5 (wd.drewN nq)) := Lib.hid (below_drewN BC.out nq)
              clear FC BC
              go_wp2_with fail
              go_roundg (gk - 1)
              case measure => omega
              case rel => exact ⟨j + 1, by omega, by go_num, by rw [WN.out]; rfl, F1.out, B1.out⟩
            · have hs1 : (mixed D r2.made keep (j + 1))[j]? = some ((mixed D r2.made keep (j + 1)).getD j noSec) := by
                have hl : j < (mixed D r2.made keep (j + 1)).length := by rw [MLN1.out]; omega
                rw [List.getD_eq_getElem?_getD, List.getElem?_eq_getElem hl]; rfl
              have hs64 := MOK1.out.len _ (List.mem_of_getElem? hs1)
              have R1 : Hid (wd.drew.rangeAt q (j * 64) (bv ((mixed D r2.made keep (j + 1)).getD j noSec))) := Lib.hid (by
                have hF : Flat wd.drew q 44 (sv (mixed D r2.made keep (j + 1))) := FC.out.same rfl
                exact hF.range (sv_len MOK1.out.len) j (by rw [sv, List.getElem?_map, hs1]; rfl))
              have R2 : Hid (wd.drew.rangeAt b7 (o7 + j * 64) (bv t)) := Lib.hid (by
                have hjK2 : j < r2.made.length := by have := HM2.out; omega
                have hs := List.getElem?_eq_getElem hjK2
                have := (SNN.out wd.drew (Fg.below_dr BC.out)).range hs
                rwa [show r2.made[j] = t by rw [← HGD.out, List.getD_eq_getElem?_getD, hs]; rfl] at this)
              have Z1 : Hid ((Try.prog.info? 44).map (·.size) = some (bv ((mixed D r2.made keep (j + 1)).getD j noSec)).length) := Lib.hid (by rw [secSize, bv_length, hs64])
              have Z2 := Z0
              have EQ := Lib.hid (fun w => sec_eq ((mixed D r2.made keep (j + 1)).getD j noSec) t hs64 H64.out w)
              have WN2 : Hid (wholeTo D r2.made keep (j + 1) = decide ((mixed D r2.made keep (j + 1)).getD j noSec = t)) := Lib.hid (by rw [WN.out, HGD.out]; rfl)
              clear hs1 hs64 WN
              generalize (mixed D r2.made keep (j + 1)).getD j noSec = s at *
              go_upto_region 17 with fail
              have hEQ := EQ.out
              refine wp_region_quiet_lit (by kernel_rfl) (by kernel_rfl) ?_
              repeat (quiet_step (fail))
              refine quiet_load_mid (by simp [Region.wanted, yielded, Act.put]) 44 (.tmp 91) rfl q (j * 64) rfl (bv s) _ ?_ secUnder rfl Z1.out ?_
              · rintro w' ⟨n, rfl⟩
                exact fun k v hv => R1.out k v hv
              repeat (quiet_step (fail))
              refine quiet_load_mid (by simp [Region.wanted, yielded, Act.put]) 44 (.tmp 95) rfl b7 (o7 + j * 64) rfl (bv t) _ ?_ secUnder rfl Z2.out ?_
              · rintro w' ⟨n, rfl⟩
                exact fun k v hv => R2.out k v hv
              repeat (quiet_step (fail))
              refine wpQuiet_nil ?_
              intro _ hw'
              obtain ⟨nq, hw''⟩ := hw'
              subst hw''
              clear hEQ
              have F1 : Hid (Flat (wd.drewN nq) q 44 (sv (mixed D r2.made keep (j + 1)))) := Lib.hid (FC.out.same rfl)
              have B1 : Hid (Below q w5 (wd.drewN nq)) := Lib.hid (below_drewN BC.out nq)
              clear FC BC R1 R2 EQ
              go_wp2_with fail
              go_roundg (gk - 1)
              case measure => omega
              case rel => exact ⟨j + 1, by omega, by go_num, by rw [WN2.out], F1.out, B1.out⟩
        · obtain rfl : j = m2 := by omega
          have MOK := Lib.hid (mixed_ok DOK.out.1 DOK.out.2.2 keep j)
          have MLN := Lib.hid ((mixed_length D r2.made keep j).trans DOK.out.2.1)
          have WF : Hid (wholeTo D r2.made keep j = true → mixed D r2.made keep j = r2.made ++ (mixed D r2.made keep j).drop j) := Lib.hid (by
            rw [← HM2.out]
            exact whole_form (by rw [HM2.out, DOK.out.2.1]; exact h220))
          obtain ⟨L, hL⟩ : ∃ L, mixed D r2.made keep j = L := ⟨_, rfl⟩
          rw [hL] at FJ MOK MLN WF
          clear hL
          generalize wholeTo D r2.made keep j = wh at *
          have SD : Hid (∀ w', Below wr.heap.size wr w' → SecsAt w' (some ⟨q, 0, none⟩) 12 L) := Lib.hid (fun w' hb => by
            have hF : Flat w' q 44 (sv L) := FJ.out.same (hb.block _ (block_lt FJ.out))
            refine SecsAt.of_own (base := 0) ?_ MOK.out
            rw [MLN.out]
            exact own_of_flat hF (sv_len MOK.out.len) (by simp [sv, MLN.out]) (Nat.zero_le _) (by simp [maxLen]))
          have OP := Lib.hid (fun w' hb => fopen_any L _ 12 w' (SD.out w' hb) (by rw [MLN.out]; decide))
          have ROP := Lib.hid (fun w' hb => refopen_any L _ 12 w' (SD.out w' hb) (by rw [MLN.out]; decide))
          rw [MLN.out] at OP ROP
          have BW := B1q.out _ BJ.out
          have HBW := Lib.hid BW
          clear BW FJ SNN hlt hj h220
          go_wp2_with fail
          refine (OP.out wr (Below.refl _ _)).mono ?_
          rintro e w7 ⟨A9, c9, rfl, hs7, hb7⟩
          have B7 := Lib.hid hb7
          have B7a := Lib.hid (hb7.alloc hb7.size (.cells #[.int .u64 (openedR L).seq, .int .u32 (openedR L).epoch, .slice A9 (openedR L).pay.length c9] 30))
          have HR7 := Lib.hid (heap_alloc_at w7 (.cells #[.int .u64 (openedR L).seq, .int .u32 (openedR L).epoch, .slice A9 (openedR L).pay.length c9] 30))
          have S7 := Lib.hid (hs7.same (w' := w7.alloc (.cells #[.int .u64 (openedR L).seq, .int .u32 (openedR L).epoch, .slice A9 (openedR L).pay.length c9] 30)) (fun ad had hne => heap_alloc_old _ _ (hs7.lt had hne)))
          clear hs7 hb7
          unfold recv
          go_upto_region 20 with fail
          generalize w7.alloc (.cells #[.int .u64 (openedR L).seq, .int .u32 (openedR L).epoch, .slice A9 (openedR L).pay.length c9] 30) = w8 at *
          go_wp2_with fail
          refine (ROP.out w8 B7a.out).mono ?_
          rintro e w9 ⟨Aa, ca, rfl, -, hb9⟩
          have B9 : Hid (Below wr.heap.size wr w9) := Lib.hid (B7a.out.trans (hb9.mono B7a.out.size))
          have B9a := Lib.hid (B9.out.alloc B9.out.size (.cells #[.int .u64 (openedR L).seq, .int .u32 (openedR L).epoch, .slice Aa (openedR L).pay.length ca] 30))
          have HR9 := Lib.hid ((heap_alloc_old w9 (.cells #[.int .u64 (openedR L).seq, .int .u32 (openedR L).epoch, .slice Aa (openedR L).pay.length ca] 30) (Nat.lt_of_lt_of_le (block_lt HR7.out) hb9.size)).trans ((hb9.block _ (block_lt HR7.out)).trans HR7.out))
          have S9 := Lib.hid (S7.out.same (w' := w9.alloc (.cells #[.int .u64 (openedR L).seq, .int .u32 (openedR L).epoch, .slice Aa (openedR L).pay.length ca] 30)) (fun ad had hne => (heap_alloc_old _ _ (Nat.lt_of_lt_of_le (S7.out.lt had hne) hb9.size)).trans (hb9.block _ (S7.out.lt had hne))))
          clear hb9 HR7 S7 OP ROP SD
          unfold recv
          go_upto_region 21 with fail
          generalize w9.alloc (.cells #[.int .u64 (openedR L).seq, .int .u32 (openedR L).epoch, .slice Aa (openedR L).pay.length ca] 30) = wa at *
          have HBA : Hid (Below w1.heap.size w1 wa) := Lib.hid (HBW.out.trans (B9a.out.mono HBW.out.size))
          have a0 := cell_of_block HR9.out 0
          have a1 := cell_of_block HR9.out 1
          have a2 := cell_of_block HR9.out 2
          obtain ⟨k0, k1, k2⟩ := CC.out wa HBA.out
          obtain ⟨l0, l1, l2⟩ := CD.out wa HBA.out
          have ROK := Lib.hid (openedR_ok MOK.out)
          clear B7 B7a B9 B9a MLN BJ
          cases wh
          · by_cases hI : isRec L
            · have hdI : decide (isRec L) = true := decide_eq_true hI
              have SM1 := same_any (openedR L) r A9 A c9 c wa ROK.out.1.small hok.small S9.out (SA.out _ HBA.out)
              have SM2 := Lib.hid (fun w' hb => same_any (openedR L) r2 A9 A2 c9 c2 w' ROK.out.1.small hok2.small (S9.out.same fun ad had hne => hb.block _ (S9.out.lt had hne)) (SB.out _ (HBA.out.trans (hb.mono HBA.out.size))) : ∀ w', Below wa.heap.size wa w' → _)
              unfold recv at SM1 SM2
              have SM1 := Lib.hid SM1
              rw [hdI]
              clear hI hdI WF MOK
              generalize openedR L = R at *
              generalize openedN L = N at *
              go_wp2_with fail
              refine SM1.out.mono ?_
              rintro e wb ⟨rfl, hbb⟩
              have BB := Lib.hid hbb
              have HBB : Hid (Below w1.heap.size w1 wb) := Lib.hid (HBA.out.trans (hbb.mono HBA.out.size))
              have HRb := Lib.hid ((hbb.block _ (block_lt HR9.out)).trans HR9.out)
              clear hbb a0 a1 a2 k0 k1 k2 l0 l1 l2
              have a0 := cell_of_block HRb.out 0
              have a1 := cell_of_block HRb.out 1
              have a2 := cell_of_block HRb.out 2
              obtain ⟨l0, l1, l2⟩ := CD.out wb HBB.out
              generalize decide (R = r) = d1 at *
              cases d1
              · go_wp2_with fail
                refine (SM2.out wb BB.out).mono ?_
                rintro e wx ⟨rfl, hbx⟩
                have HBX : Hid (Below w1.heap.size w1 wx) := Lib.hid (HBB.out.trans (hbx.mono HBB.out.size))
                clear hbx
                generalize decide (R = r2) = d2 at *
                cases d2
                · go_wp2_with fail
                  go_ret
                  exact ⟨rfl, B0.out.trans (HBX.out.mono B0.out.size)⟩
                · go_wp2_with fail
                  go_ret
                  exact ⟨rfl, B0.out.trans (HBX.out.mono B0.out.size)⟩
              · go_wp2_with fail
                go_ret
                exact ⟨rfl, B0.out.trans (HBB.out.mono B0.out.size)⟩
            · have hdI : decide (isRec L) = false := decide_eq_false hI
              have hN : openedN L = 0 := if_neg hI
              rw [hdI, hN]
              clear hI hdI hN
              go_wp2_with fail
              go_ret
              exact ⟨rfl, B0.out.trans (HBA.out.mono B0.out.size)⟩
          · have hLf := WF.out rfl
            have MO := made_opens hok2 HGG.out.2 (L.drop j)
            rw [← hLf] at MO
            obtain ⟨hI, hR, hN⟩ := MO
            have hmm : r2.many = j := by rw [← Rec.made_length HGG.out.2]; exact HM2.out
            have hdI : decide (isRec L) = true := decide_eq_true hI
            rw [hR] at a0 a1 a2 S9
            have SM := same_self r2 A9 A2 c9 c2 wa hok2.small S9.out (SB.out _ HBA.out)
            unfold recv at SM
            have SM := Lib.hid SM
            rw [hdI, hN, hR, hmm]
            clear hI hdI hN hR hmm hLf WF HR9 ROK
            go_wp2_with fail
            refine SM.out.mono ?_
            rintro e wb ⟨rfl, hbb⟩
            have HBB : Hid (Below w1.heap.size w1 wb) := Lib.hid (HBA.out.trans (hbb.mono HBA.out.size))
            clear hbb
            go_wp2_with fail
            go_ret
            exact ⟨rfl, B0.out.trans (HBB.out.mono B0.out.size)⟩
    · by_cases hg : r.good
      · have he : r.err = 0 := if_pos hg
        have hg2 : ¬ r2.good := fun h => hgg ⟨hg, h⟩
        have he2 : r2.err = 81 := if_neg hg2
        have hq1 : (r.seq == 0) = false := beq_eq_false_iff_ne.2 hg.2
        have hq2 : (r2.seq == 0) = true := beq_iff_eq.2 (by
          rcases Classical.em (r2.seq = 0) with h | h
          · exact h
          · exact absurd ⟨hl2, h⟩ hg2)
        rw [he, he2]
        clear hg hg2 he he2 hgg
        go_wp2_with fail
        go_ret
        exact ⟨rfl, B0.out.trans (B5.out.mono B0.out.size)⟩
      · have he : r.err = 81 := if_neg hg
        have hq1 : (r.seq == 0) = true := beq_iff_eq.2 (by
          rcases Classical.em (r.seq = 0) with h | h
          · exact h
          · exact absurd ⟨hl1, h⟩ hg)
        rw [he]
        clear hg he hgg
        go_wp2_with fail
        go_ret
        exact ⟨rfl, B0.out.trans (B5.out.mono B0.out.size)⟩
end Go.Proofs.Ytbpmakfgjdjmaaa.Frame
