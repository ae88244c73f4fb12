/- The walk of the law DiskKeeps of floodgate's disk layer. There are no conditions. -/
import Derived.Test.YtndcgofjhlndgaaFgDiskKeeps0
import Derived.Test.YtndcgofjhlndgaaFgCut
set_option linter.unusedVariables false
set_option linter.unusedSimpArgs false
namespace Go.Proofs.Ytndcgofjhlndgaa.Disk
open Go.RowKit Go.Proofs.Ytndcgofjhlndgaa.Fg

set_option maxRecDepth 100000 in
set_option maxHeartbeats 4000000 in
theorem keeps_any (sectors : Int) (hw : (Lit.int .i64 sectors).wf = true) (A : Option Addr) (c : Nat) (l : List Act1) (B : Option Addr) (cb : Nat) (kp : List Bool) (W : World) (hs : Acts W A l) (hk : Fg.Src W B kp.length cb (blv kp)) :
    Calls Try.prog 6 #[.int .i64 sectors, .slice A l.length c, .slice B kp.length cb] W fun e w' => e = .returned (.bool true) ∧ Below W.heap.size W w' := by
  have HS := Lib.hid hs
  have HKP := Lib.hid hk
  clear hw hs hk
  go_enter Try.func6, Try.ntmps6
  go_wp2_with fail
  refine (alive_any W).mono ?_
  rintro e w0 ⟨rfl, hb0⟩
  have HB0 := Lib.hid hb0
  clear hb0
  by_cases h0 : sectors < 0
  · go_wp2_with fail
    go_ret
    exact ⟨rfl, HB0.out⟩
  by_cases h1 : 100 < sectors
  · go_wp2_with fail
    go_ret
    exact ⟨rfl, HB0.out⟩
  by_cases h2 : (100 : Int) < l.length
  · go_wp2_with fail
    go_ret
    exact ⟨rfl, HB0.out⟩
  obtain ⟨n, rfl⟩ : ∃ n : Nat, sectors = n := ⟨sectors.toNat, by omega⟩
  have hn : n ≤ 100 := by omega
  have HN := Lib.hid hn
  go_wp2_with fail
  refine (new_any n n _ (by split <;> (try split) <;> omega)).mono ?_
  rintro e w1 ⟨g, F, rfl, hd, hb, hF⟩
  have L1 : LD W w1 g (Dk.new n) F := ⟨hd, HB0.out.trans (hb.mono HB0.out.size), fun k hk => Nat.le_trans HB0.out.size (hF k hk)⟩
  have LL1 := Lib.hid L1
  clear hd hb hF L1
  have mk := make_bss n hn
  have FS := Lib.hid (fill_start LL1.out n)
  go_upto_region 7 with fail
  generalize w1.alloc (.cells (Array.replicate n (Value.slice none 0 0)) 57) = w2 at *
  obtain ⟨mb, hmb⟩ : ∃ mb, w1.heap.size = mb := ⟨_, rfl⟩
  rw [hmb] at FS ⊢
  clear hmb mk LL1
  go_wp2_with fail
  go_loopg [39] n (fun k v wr => ∃ i : Nat, i + k = n ∧ v = .int .i64 i ∧ ∃ vs qs, Fill W wr g mb n i (Dk.new n) F vs qs)
  case atStart => exact ⟨0, Nat.zero_add _, rfl, _, _, FS.out⟩
  case round =>
    obtain ⟨i, hi, rfl, vs, qs, hf⟩ := hrel
    by_cases hlt : i < n
    · have NX := Lib.hid (hf.next hlt)
      rw [World.setCell_alloc_past _ _ _ _ (block_lt hf.hmb)] at NX
      have hmb := block_lt hf.hmb
      obtain ⟨v0, x0⟩ : ∃ v0, (wr.alloc (.cells #[.int .u8 0] 5)).cell? ⟨mb, i, none⟩ = some v0 := ⟨vs[i]'(by rw [hf.len]; exact hlt), (cell_of_block ((heap_alloc_old _ _ hmb).trans hf.hmb) i).trans (by simp [hf.len, hlt])⟩
      have x1 := free_of_block ((heap_alloc_old wr (.cells #[.int .u8 0] 5) hmb).trans hf.hmb) i
      clear hf FS
      go_wp2_with fail
      go_roundg (gk - 1)
      case measure => omega
      case rel => exact ⟨i + 1, by omega, by go_num, _, _, NX.out⟩
    · obtain rfl : n = i := by omega
      have KM := Lib.hid hf.may
      have KL := Lib.hid hf.ld
      clear hf FS
      have ST : Hid (KNow W g mb n 0 wr) := Lib.hid ⟨Dk.new n, F, _, vs, qs, KL.out, KM.out, inv_start n, by simp [Dk.new], (fun x hx => by rw [List.eq_of_mem_replicate hx]; simp), by simp⟩
      have ENV := Lib.hid (fun (w' : World) (hb : Below W.heap.size W w') => HS.out.below hb)
      clear KM KL HN
      go_wp2_with fail
      generalize wr = w3 at *
      go_loopg [49] l.length (fun k v wr => ∃ j : Nat, j + k = l.length ∧ v = .int .i64 j ∧ KNow W g mb n j wr)
      case atStart => exact ⟨0, Nat.zero_add _, rfl, ST.out⟩
      case round =>
        obtain ⟨j, hj, rfl, d, F, M, vs, qs, ld, may, inv, hpd, hlen, hmn⟩ := hrel
        clear ST
        by_cases hlt : j < l.length
        · obtain ⟨⟨ki, at0, by0, ke⟩, ha⟩ : ∃ a, l[j]? = some a := ⟨_, List.getElem?_eq_getElem hlt⟩
          obtain ⟨b, o, A', c', rfl, hrg0, hsk, hbl, hat⟩ := HS.out.each j _ ha
          simp only at hrg0 hat
          have hrg : wr.rangeAt b (o + j * 4) [.int .i64 ki, .int .i64 at0, .int .u8 by0, .slice A' ke.length c'] := fun i v hv => (ld.below.cell (p := ⟨b, o + j * 4 + i, none⟩) hbl).trans (hrg0 i v hv)
          have HRG := Lib.hid hrg
          have HAT := Lib.hid hat
          have Y1 : Hid ((Try.prog.info? 44).map (·.size) = some ([.int .i64 ki, .int .i64 at0, .int .u8 by0, .slice A' ke.length c'] : List Value).length) := Lib.hid (by kernel_rfl)
          have INV := Lib.hid inv
          have HPD := Lib.hid hpd
          have HLN := Lib.hid hlen
          have HMN := Lib.hid hmn
          have KN0 := Lib.hid (kn_start ld may (Obj.cells #[.int .i64 ki, .int .i64 at0, .int .u8 by0, .slice A' ke.length c'] 44))
          clear ha hrg hsk hat hrg0 inv hpd hlen hmn ld may
          go_upto_region 15 with (refine wpList_load_mid rfl 44 (.tmp 51) rfl b (o + j * 4) rfl [.int .i64 ki, .int .i64 at0, .int .u8 by0, .slice A' ke.length c'] _ HRG.out Try.underlying44 rfl Y1.out ?_)
          have HP6 : Hid (d.pd.length < 1000000) := Lib.hid (by have := HPD.out; omega)
          generalize wr.alloc (Obj.cells #[.int .i64 ki, .int .i64 at0, .int .u8 by0, .slice A' ke.length c'] 44) = w4 at *
          generalize wr.heap.size = ab at *
          have m0 : w4.cell? ⟨ab, 0, none⟩ = some (.int .i64 ki) := cell_of_block KN0.out.hab 0
          have m1 : w4.cell? ⟨ab, 1, none⟩ = some (.int .i64 at0) := cell_of_block KN0.out.hab 1
          have m2 : w4.cell? ⟨ab, 2, none⟩ = some (.int .u8 by0) := cell_of_block KN0.out.hab 2
          by_cases h0 : ki = 0
          · subst h0
            go_wp2_with (refine wpList_build_list_g (by simp [Region.wanted, yielded, Act.put]) 25 #[(0, .tmp 61)] rfl [(0, .int .u8 by0)] rfl (bv (sec1 by0)).toArray (secBuilt1 by0) ?_)
            refine (write_any KN0.out.ld.disk at0 (sec1 by0) (sec1_len _) HP6.out).mono ?_
            rintro e w5 ⟨rfl, ht⟩
            obtain ⟨F5, k5⟩ := KN0.out.turn ht
            have K5 := Lib.hid k5
            clear ht k5
            have n0 : w5.cell? ⟨ab, 0, none⟩ = some (.int .i64 0) := cell_of_block K5.out.hab 0
            have n1 : w5.cell? ⟨ab, 1, none⟩ = some (.int .i64 at0) := cell_of_block K5.out.hab 1
            have n2 : w5.cell? ⟨ab, 2, none⟩ = some (.int .u8 by0) := cell_of_block K5.out.hab 2
            by_cases he : d.putE at0 = 0
            · obtain ⟨hat0, hat1⟩ := there_of_putE he
              obtain ⟨i, rfl⟩ : ∃ i : Nat, at0 = i := ⟨at0.toNat, by omega⟩
              have hin : i < n := by have := INV.out.len; have := HMN.out; omega
              obtain ⟨m, hm⟩ : ∃ m, M[i]? = some m := ⟨_, List.getElem?_eq_getElem (by have := HMN.out; omega)⟩
              obtain ⟨v0, hv0, how⟩ := K5.out.may.each i m hm
              have HOW' := how
              obtain ⟨o0, c0, cur0, rfl, -⟩ := HOW'
              have HOW := Lib.hid how
              have HV0 : Hid (vs.toArray[i]? = some (.slice (some ⟨qs i, o0, none⟩) m.length c0)) := Lib.hid (by simpa using hv0)
              have hiM : i < M.length := by have := HMN.out; omega
              have HG2 : Hid (mb < w5.heap.size) := Lib.hid (block_lt K5.out.may.hmb)
              have HQ2 : Hid (qs i < w5.heap.size) := Lib.hid (K5.out.may.lt hiM)
              have HNE : Hid (qs i ≠ mb) := Lib.hid (K5.out.may.ne hiM)
              have HNB : Hid (¬ (ab = qs i ∨ ab = mb)) := Lib.hid (by rintro (e | e); exact K5.out.nq i hiM e.symm; exact K5.out.nm e)
              have HML : Hid (m.length < 1000000) := Lib.hid (by have := HLN.out m (List.mem_of_getElem? hm); omega)
              have IV5 : Hid (Inv (d.put i (sec1 by0)) (M.set i (m ++ [by0]))) := Lib.hid (INV.out.put hm by0 he)
              have HIM := Lib.hid hiM
              have HMM := Lib.hid (HLN.out m (List.mem_of_getElem? hm))
              rw [he]
              clear he hat1 hv0 how hm hiM
              go_upto_region 16 with fail
              apply wp_region_words3 (PushE2 mb i (qs i) 10 11 13) (PushI2 w5 mb (qs i) (.slice (some ⟨qs i, o0, none⟩) m.length c0) m 11 13)
                [isVal _, isVal _, isVal _, isVal _, isVal _, isVal _, isVal _, isVal (.slice (some ⟨qs i, o0, none⟩) m.length c0), isVal _, isVal _, LitAt w5.heap.size 1 (bv [by0]), PushW2 w5.heap.size (qs i) (m ++ [by0]), isVal _, PushD2 w5.heap.size mb i 57 vs.toArray (qs i) (m ++ [by0])]
                [[], [], [1], [], [], [4], [3, 5], [6], [], [8], [9], [7, 10], [0, 2], [11, 12]] [0, 1, 2, 3, 4, 5, 6, 7, 8, 9, 10, 11, 12, 13] (by kernel_rfl) (by kernel_rfl) ?hF ?stand ?hI ?steps ?fin
              case hF => intro v; simp [fillFrom, Act.put]; rfl
              case stand =>
                refine And.intro ?_ ?_
                · (intro k u w w' _ _ h _; exact h)
                refine And.intro ?_ ?_
                · (intro k u w w' _ _ h _; exact h)
                refine And.intro ?_ ?_
                · (intro k u w w' _ _ h _; exact h)
                refine And.intro ?_ ?_
                · (intro k u w w' _ _ h _; exact h)
                refine And.intro ?_ ?_
                · (intro k u w w' _ _ h _; exact h)
                refine And.intro ?_ ?_
                · (intro k u w w' _ _ h _; exact h)
                refine And.intro ?_ ?_
                · (intro k u w w' _ _ h _; exact h)
                refine And.intro ?_ ?_
                · (intro k u w w' _ _ h _; exact h)
                refine And.intro ?_ ?_
                · (intro k u w w' _ _ h _; exact h)
                refine And.intro ?_ ?_
                · (intro k u w w' _ _ h _; exact h)
                refine And.intro ?_ ?_
                · exact litAt_stand2 HG2.out HQ2.out
                refine And.intro ?_ ?_
                · exact pushW2_stand HNE.out HG2.out rfl
                refine And.intro ?_ ?_
                · (intro k u w w' _ _ h _; exact h)
                refine And.intro ?_ ?_
                · exact pushD2_stand HNE.out HG2.out rfl (by decide)
                exact trivial
              case hI => exact pushI2_start HOW.out
              case steps =>
                refine And.intro ?_ ?_
                · intro dn v w' hdk hI hdn hcl hd K hK
                  simp only [allOf, word, List.getD_cons_zero, List.getD_cons_succ, isVal, and_true, true_and] at hd
                  have HK := Lib.hid hK
                  clear hK
                  go_simp
                  exact HK.out _ _ rfl (by simpa [PushI2] using hI) (rfl)
                refine And.intro ?_ ?_
                · intro dn v w' hdk hI hdn hcl hd K hK
                  simp only [allOf, word, List.getD_cons_zero, List.getD_cons_succ, isVal, and_true, true_and] at hd
                  have HK := Lib.hid hK
                  clear hK
                  go_simp
                  exact HK.out _ _ rfl (by simpa [PushI2] using hI) (rfl)
                refine And.intro ?_ ?_
                · intro dn v w' hdk hI hdn hcl hd K hK
                  simp only [allOf, word, List.getD_cons_zero, List.getD_cons_succ, isVal, and_true, true_and] at hd
                  simp only [hd] at hK
                  have cc : w'.cell? ⟨ab, 1, none⟩ = some (.int .i64 i) := cell_of_block (hI.old K5.out.hab HNB.out) 1
                  have HK := Lib.hid hK
                  clear hK
                  go_simp
                  exact HK.out _ _ rfl (by simpa [PushI2] using hI) (rfl)
                refine And.intro ?_ ?_
                · intro dn v w' hdk hI hdn hcl hd K hK
                  simp only [allOf, word, List.getD_cons_zero, List.getD_cons_succ, isVal, and_true, true_and] at hd
                  have HK := Lib.hid hK
                  clear hK
                  go_simp
                  exact HK.out _ _ rfl (by simpa [PushI2] using hI) (rfl)
                refine And.intro ?_ ?_
                · intro dn v w' hdk hI hdn hcl hd K hK
                  simp only [allOf, word, List.getD_cons_zero, List.getD_cons_succ, isVal, and_true, true_and] at hd
                  have HK := Lib.hid hK
                  clear hK
                  go_simp
                  exact HK.out _ _ rfl (by simpa [PushI2] using hI) (rfl)
                refine And.intro ?_ ?_
                · intro dn v w' hdk hI hdn hcl hd K hK
                  simp only [allOf, word, List.getD_cons_zero, List.getD_cons_succ, isVal, and_true, true_and] at hd
                  simp only [hd] at hK
                  have cc : w'.cell? ⟨ab, 1, none⟩ = some (.int .i64 i) := cell_of_block (hI.old K5.out.hab HNB.out) 1
                  have HK := Lib.hid hK
                  clear hK
                  go_simp
                  exact HK.out _ _ rfl (by simpa [PushI2] using hI) (rfl)
                refine And.intro ?_ ?_
                · intro dn v w' hdk hI hdn hcl hd K hK
                  simp only [allOf, word, List.getD_cons_zero, List.getD_cons_succ, isVal, and_true, true_and] at hd
                  try simp only [hd] at hK
                  have HK := Lib.hid hK
                  clear hK
                  go_simp
                  exact HK.out _ _ rfl (by simpa [PushI2] using hI) (rfl)
                refine And.intro ?_ ?_
                · intro dn v w' hdk hI hdn hcl hd K hK
                  simp only [allOf, word, List.getD_cons_zero, List.getD_cons_succ, isVal, and_true, true_and] at hd
                  simp only [hd] at hK
                  have d13 := not_done (q := 13) hcl (not_done (q := 11) hcl hdk (by decide)) (by decide)
                  have cc : w'.cell? ⟨mb, i, none⟩ = some (.slice (some ⟨qs i, o0, none⟩) m.length c0) := (hI.cell d13 K5.out.may.hmb i).trans HV0.out
                  have HK := Lib.hid hK
                  clear hK
                  go_simp
                  exact HK.out _ _ rfl (by simpa [PushI2] using hI) (rfl)
                refine And.intro ?_ ?_
                · intro dn v w' hdk hI hdn hcl hd K hK
                  simp only [allOf, word, List.getD_cons_zero, List.getD_cons_succ, isVal, and_true, true_and] at hd
                  have HK := Lib.hid hK
                  clear hK
                  go_simp
                  exact HK.out _ _ rfl (by simpa [PushI2] using hI) (rfl)
                refine And.intro ?_ ?_
                · intro dn v w' hdk hI hdn hcl hd K hK
                  simp only [allOf, word, List.getD_cons_zero, List.getD_cons_succ, isVal, and_true, true_and] at hd
                  simp only [hd] at hK
                  have cc : w'.cell? ⟨ab, 2, none⟩ = some (.int .u8 by0) := cell_of_block (hI.old K5.out.hab HNB.out) 2
                  have HK := Lib.hid hK
                  clear hK
                  go_simp
                  exact HK.out _ _ rfl (by simpa [PushI2] using hI) (rfl)
                refine And.intro ?_ ?_
                · intro dn v w' hdk hI hdn hcl hd K hK
                  simp only [allOf, word, List.getD_cons_zero, List.getD_cons_succ, isVal, and_true, true_and] at hd
                  try simp only [hd] at hK
                  have HK := Lib.hid hK
                  clear hK
                  go_simp
                  exact HK.out _ _ (litAt_new hI.1.size (bv [by0]).toArray _ (by decide)) (hI.alloc HG2.out _ (by decide) (by decide)) ⟨_, rfl⟩
                refine And.intro ?_ ?_
                · intro dn v w' hdk hI hdn hcl hd K hK
                  simp only [allOf, word, List.getD_cons_zero, List.getD_cons_succ, isVal, and_true, true_and] at hd
                  obtain ⟨h7, p10, h10, hp10, hs10⟩ := hd
                  have hI11 := hI.2.1 hdk
                  have HK := Lib.hid hK
                  clear hK
                  refine step_append_at (by rfl) (.tmp 73) (.tmp 76) 57 (by rfl) Try.underlying57 info_byte (.slice (some ⟨qs i, o0, none⟩) m.length c0) m (qs i) h7 hI11 HML.out ⟨p10, 0, none⟩ by0 h10 hs10 ?_
                  intro v3 w3 q3 ho3 hg3 hat3
                  exact HK.out _ _ (pushW2_at hI.1.size ho3 hat3) (hI.app rfl (by decide) HNE.out HG2.out hg3) hg3
                refine And.intro ?_ ?_
                · intro dn v w' hdk hI hdn hcl hd K hK
                  simp only [allOf, word, List.getD_cons_zero, List.getD_cons_succ, isVal, and_true, true_and] at hd
                  try simp only [hd] at hK
                  have HK := Lib.hid hK
                  clear hK
                  go_simp
                  exact HK.out _ _ rfl (by simpa [PushI2] using hI) (rfl)
                refine And.intro ?_ ?_
                · intro dn v w' hdk hI hdn hcl hd K hK
                  simp only [allOf, word, List.getD_cons_zero, List.getD_cons_succ, isVal, and_true, true_and] at hd
                  obtain ⟨h11, h12⟩ := hd
                  have h11' := h11
                  obtain ⟨q11, ⟨o11, c11, cur11, hv11, -⟩, -⟩ := h11'
                  simp only [List.length_append, List.length_cons, List.length_nil, Nat.zero_add] at hv11
                  simp only [h12, hv11] at hK h11
                  have hd11 : dn 11 = true := by simp only [allTrue, List.getD_cons_zero, List.getD_cons_succ] at hdn; exact hdn.1
                  have h11 := Lib.hid h11
                  have c13 : w'.cell? ⟨mb, i, none⟩ = some (.slice (some ⟨qs i, o0, none⟩) m.length c0) := (hI.cell hdk K5.out.may.hmb i).trans HV0.out
                  have f13 := free_of_block ((hI.2.2 hdk).trans K5.out.may.hmb) i
                  have HK := Lib.hid hK
                  clear hK
                  go_simp
                  exact HK.out undef _ (pushD2_at h11.out HNE.out HG2.out ((hI.2.2 hdk).trans K5.out.may.hmb) undef) (hI.set rfl hd11 (by decide) _) ⟨_, rfl⟩
                exact trivial
              intro v w6 dn hall hI hd
              simp only [allOf, word, List.getD_cons_zero, List.getD_cons_succ, isVal, and_true, true_and] at hd
              obtain ⟨h0, h1, h2, h3, h4, h5, h6, h7, h8, h9, -, -, h12, ⟨v6, ⟨q6, ho6, hq6⟩, hh6⟩⟩ := hd
              simp only [h0, h1, h2, h3, h4, h5, h6, h7, h8, h9, h12]
              clear h0 h1 h2 h3 h4 h5 h6 h7 h8 h9 h12
              have k6 := K5.out.set HIM.out hI.1 ho6 hq6 (by simpa using hh6)
              have K6 := Lib.hid k6
              clear k6 hI ho6 hq6 hh6
              have p0 : w6.cell? ⟨ab, 0, none⟩ = some (.int .i64 0) := cell_of_block K6.out.hab 0
              have p1 : w6.cell? ⟨ab, 1, none⟩ = some (.int .i64 i) := cell_of_block K6.out.hab 1
              have p2 : w6.cell? ⟨ab, 2, none⟩ = some (.int .u8 by0) := cell_of_block K6.out.hab 2
              go_wp2_with fail
              go_roundg (gk - 1)
              case measure => omega
              case rel => exact ⟨j + 1, by omega, by go_num, _, F5, _, _, _, K6.out.ld, K6.out.may, IV5.out, Nat.le_trans (keeps_put_pd d _ _) (by have := HPD.out; omega), (fun x hx => by rcases List.mem_or_eq_of_mem_set hx with hx | rfl; exact Nat.le_trans (HLN.out x hx) (by omega); have := HMM.out; simp; omega), by rw [List.length_set]; exact HMN.out⟩
            · have hef := put_falls (sec1 by0) he
              have IV5 : Hid (Inv (d.put at0 (sec1 by0)) M) := Lib.hid (INV.out.congr hef.1 hef.2)
              have hne : (d.putE at0 == 0) = false := beq_eq_false_iff_ne.2 he
              clear he hef
              go_wp2_with fail
              go_roundg (gk - 1)
              case measure => omega
              case rel => exact ⟨j + 1, by omega, by go_num, _, F5, M, _, _, K5.out.ld, K5.out.may, IV5.out, Nat.le_trans (keeps_put_pd d _ _) (by have := HPD.out; omega), (fun x hx => Nat.le_trans (HLN.out x hx) (by omega)), HMN.out⟩
          · have k0 : (ki == 0) = false := beq_eq_false_iff_ne.2 h0
            by_cases h1 : ki = 1
            · subst h1
              clear h0
              go_wp2_with fail
              refine (sync_any KN0.out.ld.disk).mono ?_
              rintro e w5 ⟨rfl, ht⟩
              obtain ⟨F5, k5⟩ := KN0.out.turn ht
              have K5 := Lib.hid k5
              clear ht k5
              have n0 : w5.cell? ⟨ab, 0, none⟩ = some (.int .i64 1) := cell_of_block K5.out.hab 0
              have n1 : w5.cell? ⟨ab, 1, none⟩ = some (.int .i64 at0) := cell_of_block K5.out.hab 1
              have n2 : w5.cell? ⟨ab, 2, none⟩ = some (.int .u8 by0) := cell_of_block K5.out.hab 2
              by_cases he : d.actE = 0
              · have IV5 : Hid (Inv d.sync (M.map lastOnly)) := Lib.hid (INV.out.sync he)
                rw [he]
                clear he
                obtain ⟨g0, hg0⟩ : ∃ x, x = gk := ⟨gk, rfl⟩
                go_wp2_with fail
                go_loopg [89] n (fun k v wx => ∃ (i : Nat) (Mx : List (List Int)) (vx : List Value) (qx : Nat → Nat), i + k = n ∧ v = .int .i64 i ∧ KN W wx g mb ab (Obj.cells #[.int .i64 1, .int .i64 at0, .int .u8 by0, .slice A' ke.length c'] 44) d.sync F5 Mx vx qx ∧ Cutting M i Mx)
                case atStart => exact ⟨0, M, vs, qs, Nat.zero_add _, rfl, K5.out, cutting_start M⟩
                case round =>
                  obtain ⟨i, Mx, vx, qx, hi, rfl, kx, hcut⟩ := hrel
                  have KX := Lib.hid kx
                  have HCT := Lib.hid hcut
                  clear kx hcut
                  by_cases hin : i < n
                  · obtain ⟨mm, hmm⟩ : ∃ m, M[i]? = some m := ⟨_, List.getElem?_eq_getElem (by have := HMN.out; omega)⟩
                    have hmx : Mx[i]? = some mm := by rw [HCT.out.2 i, if_neg (Nat.lt_irrefl i), hmm]
                    obtain ⟨v0, hv0, how⟩ := KX.out.may.each i mm hmx
                    have HOW' := how
                    obtain ⟨o0, c0, cur0, rfl, -, hc1, hc2, -⟩ := HOW'
                    have HOW := Lib.hid how
                    have HV0 : Hid (vx.toArray[i]? = some (.slice (some ⟨qx i, o0, none⟩) mm.length c0)) := Lib.hid (by simpa using hv0)
                    have hiM : i < Mx.length := (List.getElem?_eq_some_iff.1 hmx).1
                    have HIM := Lib.hid hiM
                    obtain ⟨bl, hbl, -⟩ := INV.out.last i mm hmm
                    have hm1 : 0 < mm.length := by
                      cases mm with
                      | nil => cases hbl
                      | cons _ _ => simp
                    have hm2 := HLN.out mm (List.mem_of_getElem? hmm)
                    have HCN := Lib.hid (HCT.out.next hmm)
                    unfold maxLen at hc2
                    obtain ⟨k1, hk1⟩ : ∃ k, mm.length = k + 1 := ⟨mm.length - 1, by omega⟩
                    have EW : Hid (IntKind.i64.wrap ((mm.length : Int) - 1) = (k1 : Int)) := Lib.hid (by rw [IntKind.wrap_i64]; omega)
                    have hk2 : ((k1 : Nat) : Int) ≤ (mm.length : Int) := by omega
                    have hk3 : ¬ c0 = k1 := by omega
                    have HK1 := Lib.hid hk1
                    clear hk1
                    clear hv0 how hiM hmx hmm hbl
                    go_upto_region 21 with fail
                    apply wp_region_words3 (CutE mb i 14) (CutI wr mb 14)
                      [isVal _, isVal _, isVal _, isVal _, isVal _, isVal (.slice (some ⟨qx i, o0, none⟩) mm.length c0), isVal _, isVal _, isVal _, isVal (.slice (some ⟨qx i, o0, none⟩) mm.length c0), isVal _, isVal (.int .i64 (k1 : Nat)), isVal (.slice (some ⟨qx i, o0 + k1, none⟩) (mm.length - k1) (c0 - k1)), isVal _, CutD wr mb i 57 vx.toArray (.slice (some ⟨qx i, o0 + k1, none⟩) (mm.length - k1) (c0 - k1))]
                      [[], [], [], [], [2, 3], [4], [], [], [6, 7], [8], [9], [10], [5, 11], [0, 1], [12, 13]] [0, 1, 2, 3, 4, 5, 6, 7, 8, 9, 10, 11, 12, 13, 14] (by kernel_rfl) (by kernel_rfl) ?hFb ?standb ?hIb ?stepsb ?finb
                    case hFb => intro v; simp [fillFrom, Act.put]; rfl
                    case standb =>
                      refine And.intro ?_ ?_
                      · (intro k u w w' _ _ h _; exact h)
                      refine And.intro ?_ ?_
                      · (intro k u w w' _ _ h _; exact h)
                      refine And.intro ?_ ?_
                      · (intro k u w w' _ _ h _; exact h)
                      refine And.intro ?_ ?_
                      · (intro k u w w' _ _ h _; exact h)
                      refine And.intro ?_ ?_
                      · (intro k u w w' _ _ h _; exact h)
                      refine And.intro ?_ ?_
                      · (intro k u w w' _ _ h _; exact h)
                      refine And.intro ?_ ?_
                      · (intro k u w w' _ _ h _; exact h)
                      refine And.intro ?_ ?_
                      · (intro k u w w' _ _ h _; exact h)
                      refine And.intro ?_ ?_
                      · (intro k u w w' _ _ h _; exact h)
                      refine And.intro ?_ ?_
                      · (intro k u w w' _ _ h _; exact h)
                      refine And.intro ?_ ?_
                      · (intro k u w w' _ _ h _; exact h)
                      refine And.intro ?_ ?_
                      · (intro k u w w' _ _ h _; exact h)
                      refine And.intro ?_ ?_
                      · (intro k u w w' _ _ h _; exact h)
                      refine And.intro ?_ ?_
                      · (intro k u w w' _ _ h _; exact h)
                      refine And.intro ?_ ?_
                      · exact cutD_stand rfl
                      exact trivial
                    case hIb => exact cutI_start
                    case stepsb =>
                      refine And.intro ?_ ?_
                      · intro dn v w' hdk hI hdn hcl hd K hK
                        simp only [allOf, word, List.getD_cons_zero, List.getD_cons_succ, isVal, and_true, true_and] at hd
                        have HK := Lib.hid hK
                        clear hK
                        go_simp
                        exact HK.out _ _ rfl hI.pass (rfl)
                      refine And.intro ?_ ?_
                      · intro dn v w' hdk hI hdn hcl hd K hK
                        simp only [allOf, word, List.getD_cons_zero, List.getD_cons_succ, isVal, and_true, true_and] at hd
                        have HK := Lib.hid hK
                        clear hK
                        go_simp
                        exact HK.out _ _ rfl hI.pass (rfl)
                      refine And.intro ?_ ?_
                      · intro dn v w' hdk hI hdn hcl hd K hK
                        simp only [allOf, word, List.getD_cons_zero, List.getD_cons_succ, isVal, and_true, true_and] at hd
                        have HK := Lib.hid hK
                        clear hK
                        go_simp
                        exact HK.out _ _ rfl hI.pass (rfl)
                      refine And.intro ?_ ?_
                      · intro dn v w' hdk hI hdn hcl hd K hK
                        simp only [allOf, word, List.getD_cons_zero, List.getD_cons_succ, isVal, and_true, true_and] at hd
                        have HK := Lib.hid hK
                        clear hK
                        go_simp
                        exact HK.out _ _ rfl hI.pass (rfl)
                      refine And.intro ?_ ?_
                      · intro dn v w' hdk hI hdn hcl hd K hK
                        simp only [allOf, word, List.getD_cons_zero, List.getD_cons_succ, isVal, and_true, true_and] at hd
                        try simp only [hd] at hK
                        have HK := Lib.hid hK
                        clear hK
                        go_simp
                        exact HK.out _ _ rfl hI.pass (rfl)
                      refine And.intro ?_ ?_
                      · intro dn v w' hdk hI hdn hcl hd K hK
                        simp only [allOf, word, List.getD_cons_zero, List.getD_cons_succ, isVal, and_true, true_and] at hd
                        simp only [hd] at hK
                        have d14 := not_done (q := 14) hcl (not_done (q := 12) hcl hdk (by decide)) (by decide)
                        have cc : w'.cell? ⟨mb, i, none⟩ = some (.slice (some ⟨qx i, o0, none⟩) mm.length c0) := (hI.cell d14 KX.out.may.hmb i).trans HV0.out
                        have HK := Lib.hid hK
                        clear hK
                        go_simp
                        exact HK.out _ _ rfl hI.pass (rfl)
                      refine And.intro ?_ ?_
                      · intro dn v w' hdk hI hdn hcl hd K hK
                        simp only [allOf, word, List.getD_cons_zero, List.getD_cons_succ, isVal, and_true, true_and] at hd
                        have HK := Lib.hid hK
                        clear hK
                        go_simp
                        exact HK.out _ _ rfl hI.pass (rfl)
                      refine And.intro ?_ ?_
                      · intro dn v w' hdk hI hdn hcl hd K hK
                        simp only [allOf, word, List.getD_cons_zero, List.getD_cons_succ, isVal, and_true, true_and] at hd
                        have HK := Lib.hid hK
                        clear hK
                        go_simp
                        exact HK.out _ _ rfl hI.pass (rfl)
                      refine And.intro ?_ ?_
                      · intro dn v w' hdk hI hdn hcl hd K hK
                        simp only [allOf, word, List.getD_cons_zero, List.getD_cons_succ, isVal, and_true, true_and] at hd
                        try simp only [hd] at hK
                        have HK := Lib.hid hK
                        clear hK
                        go_simp
                        exact HK.out _ _ rfl hI.pass (rfl)
                      refine And.intro ?_ ?_
                      · intro dn v w' hdk hI hdn hcl hd K hK
                        simp only [allOf, word, List.getD_cons_zero, List.getD_cons_succ, isVal, and_true, true_and] at hd
                        simp only [hd] at hK
                        have d14 := not_done (q := 14) hcl (not_done (q := 12) hcl (not_done (q := 11) hcl (not_done (q := 10) hcl hdk (by decide)) (by decide)) (by decide)) (by decide)
                        have cc : w'.cell? ⟨mb, i, none⟩ = some (.slice (some ⟨qx i, o0, none⟩) mm.length c0) := (hI.cell d14 KX.out.may.hmb i).trans HV0.out
                        have HK := Lib.hid hK
                        clear hK
                        go_simp
                        exact HK.out _ _ rfl hI.pass (rfl)
                      refine And.intro ?_ ?_
                      · intro dn v w' hdk hI hdn hcl hd K hK
                        simp only [allOf, word, List.getD_cons_zero, List.getD_cons_succ, isVal, and_true, true_and] at hd
                        try simp only [hd] at hK
                        have HK := Lib.hid hK
                        clear hK
                        go_simp
                        exact HK.out _ _ rfl hI.pass (rfl)
                      refine And.intro ?_ ?_
                      · intro dn v w' hdk hI hdn hcl hd K hK
                        simp only [allOf, word, List.getD_cons_zero, List.getD_cons_succ, isVal, and_true, true_and] at hd
                        try simp only [hd] at hK
                        have HK := Lib.hid hK
                        clear hK
                        go_simp
                        exact HK.out _ _ (by rw [EW.out]; exact rfl) hI.pass (rfl)
                      refine And.intro ?_ ?_
                      · intro dn v w' hdk hI hdn hcl hd K hK
                        simp only [allOf, word, List.getD_cons_zero, List.getD_cons_succ, isVal, and_true, true_and] at hd
                        try simp only [hd] at hK
                        have HK := Lib.hid hK
                        clear hK
                        go_simp
                        exact HK.out _ _ rfl hI.pass (rfl)
                      refine And.intro ?_ ?_
                      · intro dn v w' hdk hI hdn hcl hd K hK
                        simp only [allOf, word, List.getD_cons_zero, List.getD_cons_succ, isVal, and_true, true_and] at hd
                        try simp only [hd] at hK
                        have HK := Lib.hid hK
                        clear hK
                        go_simp
                        exact HK.out _ _ rfl hI.pass (rfl)
                      refine And.intro ?_ ?_
                      · intro dn v w' hdk hI hdn hcl hd K hK
                        simp only [allOf, word, List.getD_cons_zero, List.getD_cons_succ, isVal, and_true, true_and] at hd
                        simp only [hd] at hK
                        have d14 := hdk
                        have cc : w'.cell? ⟨mb, i, none⟩ = some (.slice (some ⟨qx i, o0, none⟩) mm.length c0) := (hI.cell d14 KX.out.may.hmb i).trans HV0.out
                        have f14 := hI.free hdk KX.out.may.hmb i
                        have HK := Lib.hid hK
                        clear hK
                        go_simp
                        exact HK.out undef _ (cutD_at hI hdk KX.out.may.hmb undef) (hI.set rfl _) ⟨_, rfl⟩
                      exact trivial
                    intro v w8 dn hall hI hd
                    simp only [allOf, word, List.getD_cons_zero, List.getD_cons_succ, isVal, and_true, true_and] at hd
                    obtain ⟨h0, h1, h2, h3, h4, h5, h6, h7, h8, h9, h10, h11, h12, h13, ⟨hh8, hk8⟩⟩ := hd
                    simp only [h0, h1, h2, h3, h4, h5, h6, h7, h8, h9, h10, h11, h12, h13]
                    clear h0 h1 h2 h3 h4 h5 h6 h7 h8 h9 h10 h11 h12 h13
                    have h8 := hk8.block _ (KX.out.may.lt HIM.out) (KX.out.may.ne HIM.out)
                    have ho8 := (HOW.out.drop k1 (by have := HK1.out; omega)).same h8
                    have el : mm.drop k1 = lastOnly mm := by rw [lastOnly, HK1.out]; rfl
                    rw [el] at ho8
                    have k8 := KX.out.set HIM.out (hk8.mono (fun _ _ h => .inr h)) ho8 (.inl rfl) (by simpa using hh8)
                    have K8 := Lib.hid k8
                    clear k8 h8 ho8 hh8 hk8 hI el
                    go_wp2_with fail
                    go_roundg (gk - 1)
                    case measure => omega
                    case rel => exact ⟨i + 1, _, _, _, by omega, by go_num, K8.out, HCN.out⟩
                  · have hin' : i = M.length := by have := HMN.out; omega
                    have hcm : Mx = M.map lastOnly := by
                      have := HCT.out
                      rw [hin'] at this
                      exact this.done
                    subst hcm
                    have p0 : wr.cell? ⟨ab, 0, none⟩ = some (.int .i64 1) := cell_of_block KX.out.hab 0
                    have p1 : wr.cell? ⟨ab, 1, none⟩ = some (.int .i64 at0) := cell_of_block KX.out.hab 1
                    have p2 : wr.cell? ⟨ab, 2, none⟩ = some (.int .u8 by0) := cell_of_block KX.out.hab 2
                    go_wp2_with fail
                    go_roundg (g0 - 1)
                    case measure => omega
                    case rel => exact ⟨j + 1, by omega, by go_num, _, F5, _, _, _, KX.out.ld, KX.out.may, IV5.out, Nat.le_trans (keeps_sync_pd d) (by have := HPD.out; omega), (fun x hx => by obtain ⟨y, _, rfl⟩ := List.mem_map.1 hx; exact Nat.le_trans (lastOnly_len y) (by omega)), by rw [List.length_map]; exact HMN.out⟩
              · have hef := sync_falls he
                have IV5 : Hid (Inv d.sync M) := Lib.hid (INV.out.congr hef.1 hef.2)
                have hne : (d.actE == 0) = false := beq_eq_false_iff_ne.2 he
                clear he hef
                go_wp2_with fail
                go_roundg (gk - 1)
                case measure => omega
                case rel => exact ⟨j + 1, by omega, by go_num, _, F5, M, _, _, K5.out.ld, K5.out.may, IV5.out, Nat.le_trans (keeps_sync_pd d) (by have := HPD.out; omega), (fun x hx => Nat.le_trans (HLN.out x hx) (by omega)), HMN.out⟩
            · have k1 : (ki == 1) = false := beq_eq_false_iff_ne.2 h1
              by_cases h2 : ki = 2
              · subst h2
                clear h0 h1
                go_wp2_with fail
                refine (brk_any KN0.out.ld.disk at0 HAT.out.1.2).mono ?_
                rintro e w5 ⟨rfl, ht⟩
                obtain ⟨F5, k5⟩ := KN0.out.turn ht
                have K5 := Lib.hid k5
                clear ht k5
                have n0 : w5.cell? ⟨ab, 0, none⟩ = some (.int .i64 2) := cell_of_block K5.out.hab 0
                have n1 : w5.cell? ⟨ab, 1, none⟩ = some (.int .i64 at0) := cell_of_block K5.out.hab 1
                have n2 : w5.cell? ⟨ab, 2, none⟩ = some (.int .u8 by0) := cell_of_block K5.out.hab 2
                go_wp2_with fail
                go_roundg (gk - 1)
                case measure => omega
                case rel => exact ⟨j + 1, by omega, by go_num, _, F5, M, _, _, K5.out.ld, K5.out.may, INV.out.congr rfl rfl, (by have := HPD.out; show d.pd.length ≤ _; omega), (fun x hx => Nat.le_trans (HLN.out x hx) (by omega)), HMN.out⟩
              · have k2 : (ki == 2) = false := beq_eq_false_iff_ne.2 h2
                clear h0 h1 h2
                go_wp2_with fail
                go_roundg (gk - 1)
                case measure => omega
                case rel => exact ⟨j + 1, by omega, by go_num, _, F, M, _, _, KN0.out.ld, KN0.out.may, INV.out, (by have := HPD.out; omega), (fun x hx => Nat.le_trans (HLN.out x hx) (by omega)), HMN.out⟩
        · obtain rfl : j = l.length := by omega
          have KM := Lib.hid may
          have KL := Lib.hid ld
          have IV := Lib.hid inv
          have HMN := Lib.hid hmn
          have CR := Lib.hid (crash_any0 ld.disk kp B cb (HKP.out.same fun ad had hne => ld.below.block _ (HKP.out.lt had hne)) (fun ad had hne hF => by
            have h3 := ld.base _ hF
            have h4 := HKP.out.lt had (by simpa [blv] using hne)
            omega))
          clear inv hpd hlen hmn ld may
          go_wp2_with fail
          refine CR.out.mono ?_
          rintro e w5 ⟨rfl, ht⟩
          obtain ⟨F5, t1, t2, t3⟩ := KL.out.turn ht
          have L5 := Lib.hid t1
          have M5 := Lib.hid (KM.out.turned t2 t3)
          have CI : Hid (∀ (i : Nat) (m : List Int), M[i]? = some m → ∃ b ∈ m, (d.crash kp).read i = sec1 b ∧ (d.crash kp).sErr i = 0) := Lib.hid (fun i m hm => IV.out.crash kp hm)
          clear ht t1 t2 t3 CR KL KM
          go_wp2_with fail
          go_loopg [120] n (fun k v wx => ∃ i : Nat, i + k = n ∧ v = .int .i64 i ∧ Below w5.heap.size w5 wx)
          case atStart => exact ⟨0, Nat.zero_add _, rfl, Below.refl _ _⟩
          case round =>
            obtain ⟨i, hi, rfl, hbx⟩ := hrel
            have L1 := Lib.hid (L5.out.later hbx)
            have BX := Lib.hid hbx
            have M1 := Lib.hid (M5.out.later hbx)
            clear hbx
            by_cases hin : i < n
            · obtain ⟨mm, hm⟩ : ∃ m, M[i]? = some m := ⟨_, List.getElem?_eq_getElem (by have := HMN.out; omega)⟩
              obtain ⟨v0, hv0, how⟩ := M1.out.each i mm hm
              have HOW' := how
              obtain ⟨o0, c0, cur0, rfl, -, hc1, hc2, -⟩ := HOW'
              obtain ⟨b, hbm, hrd, hse⟩ := CI.out i mm hm
              have HOW := Lib.hid how
              have HBM := Lib.hid hbm
              have HRD := Lib.hid hrd
              have HSE := Lib.hid hse
              have x0 : wr.cell? ⟨mb, i, none⟩ = some (.slice (some ⟨qs i, o0, none⟩) mm.length c0) := (cell_of_block M1.out.hmb i).trans (by simpa using hv0)
              unfold maxLen at hc2
              clear hm hv0 how hbm hrd hse
              go_wp2_with fail
              refine (read_any L1.out.disk i).mono ?_
              rintro e w6 ⟨rfl, hb6⟩
              rw [HRD.out, HSE.out]
              have B6 : Hid (Below w5.heap.size w5 w6) := Lib.hid (BX.out.trans (hb6.mono BX.out.size))
              have O6 := Lib.hid (HOW.out.same (hb6.block _ HOW.out.lt))
              have Z1 := Lib.hid (sec_toArray (sec1_len b))
              have Z2 : Hid ((bv noSec).toArray.size = (bv (sec1 b)).toArray.size) := Lib.hid (by simp [bv, noSec, sec1])
              have Z3 := Lib.hid (sec_one (sec1 b))
              have R06 := Lib.hid (heap_alloc_at w6 (.cells (bv noSec).toArray 25))
              have T7 := Lib.hid (setRow_at (bv (sec1 b)).toArray R06.out)
              have R26 : Hid (Below w6.heap.size w6 ((w6.alloc (.cells (bv noSec).toArray 25)).setRow w6.heap.size (bv (sec1 b)).toArray)) := Lib.hid (below_setRow ((Below.refl _ _).alloc (Nat.le_refl _) _) (Nat.le_refl _) _)
              clear hb6
              go_upto_region 31 with (first
                | refine wpList_alloc_as rfl 25 rfl (bv noSec).toArray secZero ?_
                | refine wpList_store_block rfl 25 (.tmp 15) (.tmp 129) rfl w6.heap.size (bv (sec1 b)).toArray rfl rfl (bv noSec).toArray 25 R06.out Z1.out Z2.out Z3.out ?_)
              generalize (w6.alloc (.cells (bv noSec).toArray 25)).setRow w6.heap.size (bv (sec1 b)).toArray = w7 at *
              have B7 : Hid (Below w5.heap.size w5 w7) := Lib.hid (B6.out.trans (R26.out.mono B6.out.size))
              have O7 := Lib.hid (O6.out.same (R26.out.block _ O6.out.lt))
              obtain ⟨sb, hsb⟩ : ∃ sb, w6.heap.size = sb := ⟨_, rfl⟩
              rw [hsb] at T7 ⊢
              obtain ⟨g0, hg0⟩ : ∃ x, x = gk := ⟨gk, rfl⟩
              clear hsb R06 R26 x0
              go_wp2_with fail
              go_loopg [17, 133] mm.length (fun k u v wx => ∃ q : Nat, q + k = mm.length ∧ u = .bool ((mm.take q).contains b) ∧ v = .int .i64 q ∧ w7 = wx)
              case atStart => exact ⟨0, Nat.zero_add _, by simp, rfl, rfl⟩
              case round =>
                obtain ⟨q, hq, rfl, rfl, rfl⟩ := hrel
                by_cases hqm : q < mm.length
                · obtain ⟨cc, hcc⟩ : ∃ cc, mm[q]? = some cc := ⟨_, List.getElem?_eq_getElem hqm⟩
                  have x1 := O7.out.cell hcc
                  have HNX : Hid ((mm.take (q + 1)).contains b = ((mm.take q).contains b || decide (b = cc))) := Lib.hid (by rw [List.take_add_one, hcc, List.contains_append]; simp [Bool.beq_eq_decide_eq])
                  have q1 : ∀ w : World, (Op.equalIn 10000 25 (.agg (bv (sec1 b)).toArray) (.agg (bv (sec1 cc)).toArray)).run Try.prog w = .ok (decide (b = cc)) w := fun w => by rw [sec_eq _ _ (sec1_len b) (sec1_len cc)]; simp [sec1]
                  clear hcc
                  cases hf : (mm.take q).contains b
                  · go_wp2_with (first
                      | refine wpList_load_block_g (by simp [Region.wanted, yielded, Act.put]) 25 (.tmp 15) rfl sb rfl (bv (sec1 b)).toArray 25 (0, 0) T7.out _ secUnder rfl Z1.out ?_
                      | refine wpList_build_list_g (by simp [Region.wanted, yielded, Act.put]) 25 #[(0, .tmp 140)] rfl [(0, .int .u8 cc)] rfl (bv (sec1 cc)).toArray (secBuilt1 cc) ?_)
                    go_roundg (gk - 1)
                    case measure => omega
                    case rel => exact ⟨q + 1, by omega, by rw [HNX.out, hf]; simp, by go_num, rfl⟩
                  · go_wp2_with fail
                    go_roundg (gk - 1)
                    case measure => omega
                    case rel => exact ⟨q + 1, by omega, by rw [HNX.out, hf]; simp, by go_num, rfl⟩
                · obtain rfl : q = mm.length := by omega
                  have hf : (mm.take mm.length).contains b = true := by rw [List.take_length]; simpa using HBM.out
                  rw [hf]
                  go_wp2_with fail
                  go_roundg (g0 - 1)
                  case measure => omega
                  case rel => exact ⟨i + 1, by omega, by go_num, B7.out⟩
            · obtain rfl : i = n := by omega
              go_wp2_with fail
              refine (pending_any L1.out.disk).mono ?_
              rintro e w6 ⟨A6, c6, rfl, ho6, hb6⟩
              have L6 := Lib.hid (L1.out.later hb6)
              have hz : (d.crash kp).pd.length = 0 := rfl
              rw [hz]
              clear ho6 hb6 hz
              go_wp2_with fail
              refine (down_any L6.out.disk).mono ?_
              rintro e w' ⟨rfl, rfl⟩
              rw [show (d.crash kp).down = false from rfl]
              go_wp2_with fail
              go_ret
              exact ⟨rfl, L6.out.below⟩
end Go.Proofs.Ytndcgofjhlndgaa.Disk
