/- Contracts of disk's Write and New. Conditions: none beyond each lemma's own hypotheses. -/
import Derived.Test.YtogkibikghbghaaFgDiskRead
import Derived.Test.YtogkibikghbghaaFgPush
set_option linter.unusedVariables false
set_option linter.unusedSimpArgs false
namespace Go.Proofs.Ytogkibikghbghaa.Disk
open Go.RowKit Go.Proofs.Ytogkibikghbghaa.Fg

theorem wrInfo : (Try.prog.info? 114).map (fun i => (i.zero, i.size, i.bytes)) = some (some (.agg (.int .i64 0 :: bv noSec).toArray), 65, 72) := by kernel_rfl
theorem wrInfo2 : (Try.prog.info? 114).map (fun i => (i.zero, i.size)) = some (some (.agg (.int .i64 0 :: bv noSec).toArray), 65) := by kernel_rfl
set_option maxRecDepth 100000 in
theorem wrBuilt (n : Nat) (s : List Int) (hs : s.length = 64) : Try.prog.built 114 [(0, .int .i64 n), (1, .agg (bv s).toArray)] = some (wrow (n, s)).toArray := by
  have hp : ((Try.prog.fieldsOf 114).toList.mapM fun f => (Try.prog.info? f.type).map fun i => (f.offset, i.size)) = some [(0, 1), (1, 64)] := by kernel_rfl
  rw [built_struct wrZero (Try.underlying114) hp]
  rw [fill_one 0 1 rfl rfl (by simp [Value.cells, noSec, bv]), fill_one 1 64 rfl (by simp [Value.cells, bv, hs]) (by simp [Value.cells, noSec, bv, lay])]
  simp only [Instr.fill, Option.some.injEq]
  congr 1
  simp [lay, Value.cells, wrow, bv, noSec, hs]

/-- One pending write more. -/
theorem IsD.pushed {w w5 : World} {g sb : Nat} {vp v5 : Value} {d : Dk} {x : Nat × List Int} (h : IsD w g sb vp d) (hx : x.1 < d.st.length ∧ x.2.length = 64) (hn : d.pd.length < 1000000)
    (hk : Keep (fun b => vp.ownBlock = some b ∨ b = g) w w5) (ho : w5.ownsRow 0 114 65 v5 (d.pd.length + 1) ((pv d.pd).flatten ++ wrow x)) (hv : ∀ k, v5.ownBlock = some k → vp.ownBlock = some k ∨ w.heap.size ≤ k)
    (hh : w5.heap[g]? = some (.cells ((#[.slice (some ⟨sb, 0, none⟩) d.st.length d.st.length, vp, .int .i64 d.left, .bool d.down] : Array Value).setIfInBounds 1 v5) 83)) :
    IsD w5 g sb v5 { d with pd := d.pd ++ [x] } := by
  have hne := h.ne
  refine ⟨⟨h.ok.sec, ?_, h.ok.left⟩, ⟨h.few.1, by simp; omega⟩, hh, ?_, ?_⟩
  · intro y hy
    rcases List.mem_append.1 hy with hy | hy
    · exact h.ok.at_ y hy
    · rw [List.mem_singleton.1 hy]; exact hx
  · refine h.stab.same (hk.block sb (block_lt h.stab) ?_)
    rintro (e | e)
    · exact (hne.2 _ e).2 rfl
    · exact hne.1 e.symm
  · have e : (pv (d.pd ++ [x])).flatten = (pv d.pd).flatten ++ wrow x := by simp [pv, wrow]
    show w5.ownsRow 0 114 65 v5 (d.pd ++ [x]).length (pv (d.pd ++ [x])).flatten
    rw [e, List.length_append]
    exact ho
set_option maxRecDepth 100000 in
set_option maxHeartbeats 2000000 in
theorem write_any {w : World} {g : Nat} {d : Dk} {F : Nat → Prop} (h : IsDisk w g d F) (i : Int) (s : List Int) (hs : s.length = 64) (hn : d.pd.length < 1000000) :
    Calls Try.prog 39 #[.pointer (some ⟨g, 0, none⟩), .int .i64 i, .agg (bv s).toArray] w (TurnedE w g (d.put i s) F (d.putE i)) := by
  have H1 := Lib.hid (h.below ((Below.refl _ _).alloc (Nat.le_refl _) (.cells (bv s).toArray 77)))
  have H0 := Lib.hid h
  have TH := Lib.hid (there_any H1.out i)
  have AC := Lib.hid (act_any H1.out)
  have B1 : Hid (Below w.heap.size w (w.alloc (.cells (bv s).toArray 77))) := Lib.hid ((Below.refl _ _).alloc (Nat.le_refl _) _)
  have BK := Lib.hid (heap_alloc_at w (.cells (bv s).toArray 77))
  have KK : Hid (Keep F w (w.alloc (.cells (bv s).toArray 77))) := Lib.hid ((Keep.refl _ _).alloc _)
  have HZ := Lib.hid hn
  have HS := Lib.hid hs
  clear h hs hn
  by_cases hd : d.there i = true
  · have hb : 0 ≤ i ∧ i < (d.st.length : Int) := by simpa [Dk.there] using hd
    obtain ⟨hb0, hb1⟩ := hb
    obtain ⟨n, rfl⟩ := Int.eq_ofNat_of_zero_le hb0
    have hn : n < d.st.length := by omega
    have PE : Hid (d.putE n = d.actE) := Lib.hid (if_pos hd)
    have PP : Hid (d.put n s = if d.actE = 0 then { d.act with pd := d.pd ++ [(n, s)] } else d.act) := Lib.hid (if_pos hd)
    go_enter Try.func39, Try.ntmps39
    go_wp2_with fail
    refine TH.out.mono ?_
    rintro e w' ⟨rfl, rfl⟩
    generalize w.alloc (.cells (bv s).toArray 77) = w1 at *
    go_wp2_with fail
    refine AC.out.mono ?_
    rintro e w2 ⟨rfl, F2, hd2, hk2, hF2⟩
    have HD2 := Lib.hid hd2
    have HK2 := Lib.hid hk2
    have HF2 := Lib.hid hF2
    clear hd2 hk2 hF2 AC TH
    by_cases ha : d.actE = 0
    · have hae : (d.actE == 0) = true := beq_iff_eq.2 ha
      have PP' : Hid (d.put n s = { d.act with pd := d.pd ++ [(n, s)] }) := Lib.hid (PP.out.trans (if_pos ha))
      have HA0 := Lib.hid ha
      clear ha
      obtain ⟨⟨sb, vp, i2, i3, i4⟩, i5, i6⟩ := HD2.out
      have I2 := Lib.hid i2
      have I4 := Lib.hid i4
      have hg2 := i6 _ i5
      have hp2 := i6 _ i3
      have hwlt := Nat.lt_of_lt_of_le (block_lt BK.out) HK2.out.size
      have I3 := Lib.hid i3
      have I5 := Lib.hid i5
      have I6 := Lib.hid i6
      have hnF : ¬ F w.heap.size := fun h => absurd (H0.out.lt _ h) (Nat.lt_irrefl _)
      have BK2 : Hid (w2.heap[w.heap.size]? = some (.cells (bv s).toArray 77)) := Lib.hid ((HK2.out.block _ (block_lt BK.out) hnF).trans BK.out)
      have hnF2 : ¬ F2 w.heap.size := fun h => by
        rcases HF2.out _ h with h | h
        · exact hnF h
        · have := block_lt BK.out; omega
      obtain ⟨A, c, rfl, -⟩ := own_form i2.pend
      have HOW := Lib.hid i2.pend
      have HHD := Lib.hid i2.head
      have HVB : Hid (∀ k, (Value.slice A d.act.pd.length c).ownBlock = some k → k < w2.heap.size) := Lib.hid (fun k hk => (i2.pend.lt k hk).2)
      have HNE : Hid (∀ k, (Value.slice A d.act.pd.length c).ownBlock = some k → k ≠ g) := Lib.hid (fun k hk => (i2.ne.2 k hk).1)
      have HG2 : Hid (g < w2.heap.size) := Lib.hid hg2
      have HWN : Hid (¬ ((Value.slice A d.act.pd.length c).ownBlock = some w.heap.size ∨ w.heap.size = g)) := Lib.hid (by
        rintro (h | h)
        · exact hnF2 (i4 _ h)
        · exact hnF2 (h ▸ i5))
      have HZ1 := Lib.hid (sec_toArray HS.out)
      have HSZ : Hid ((Value.agg (wrow (n, s)).toArray).cells.size = 65) := Lib.hid (by simp [Value.cells, wrow_len (x := (n, s)) HS.out])
      have HWL : Hid ((wrow (n, s)).length = 1 * 65) := Lib.hid (wrow_len (x := (n, s)) HS.out)
      have HW1 : Hid (∀ u ∈ wrow (n, s), u.oneCell' = true) := Lib.hid (fun u hu => by
        rcases List.mem_cons.1 hu with rfl | hu
        · rfl
        · exact bv_one _ u hu)
      have HPD : Hid (d.act.pd = d.pd) := Lib.hid (Dk.act_pd d)
      have HST : Hid (d.act.st = d.st) := Lib.hid (Dk.act_st d)
      have HNB : Hid ((d.act.pd.length + 1) * 72 ≤ 140737488355328) := Lib.hid (by rw [HPD.out]; have := HZ.out; omega)
      have HN := Lib.hid hn
      clear hnF hnF2 i2 i3 i4 i5 i6 hg2 hp2 hwlt hn hb1 hd
      go_upto_region 5 with fail
      -- region dk5
      apply wp_region_words3 (PushE g 1 (.slice A d.act.pd.length c) 8 9 12) (PushI w2 g (.slice A d.act.pd.length c) 114 65 d.act.pd.length (pv d.act.pd).flatten 9 12)
        [isVal _, isVal _, isVal _, isVal _, isVal (.slice A d.act.pd.length c), isVal _, isVal (.agg (bv s).toArray), isVal (.agg (wrow (n, s)).toArray), LitAt w2.heap.size 1 (wrow (n, s)), PushW w2.heap.size (.slice A d.act.pd.length c) 114 65 (d.act.pd.length + 1) ((pv d.act.pd).flatten ++ wrow (n, s)), isVal _, isVal _, PushD w2.heap.size g 1 83 #[.slice (some ⟨sb, 0, none⟩) d.act.st.length d.act.st.length, (.slice A d.act.pd.length c), .int .i64 d.act.left, .bool d.act.down] (.slice A d.act.pd.length c) 114 65 (d.act.pd.length + 1) ((pv d.act.pd).flatten ++ wrow (n, s))]
        [[], [], [1], [2], [3], [], [], [5, 6], [7], [4, 8], [0], [10], [9, 11]] [0, 1, 2, 3, 4, 5, 6, 7, 8, 9, 10, 11, 12] (by kernel_rfl) (by kernel_rfl) ?hF ?stand ?hI ?steps ?fin
      case hF => intro v; simp [fillFrom, Act.put]; rfl
      case stand =>
        refine And.intro ?_ ?_
        · (intro k u w w' _ _ h _; exact h)
        refine And.intro ?_ ?_
        · (intro k u w w' _ _ h _; exact h)
        refine And.intro ?_ ?_
        · (intro k u w w' _ _ h _; exact h)
        refine And.intro ?_ ?_
        · (intro k u w w' _ _ h _; exact h)
        refine And.intro ?_ ?_
        · (intro k u w w' _ _ h _; exact h)
        refine And.intro ?_ ?_
        · (intro k u w w' _ _ h _; exact h)
        refine And.intro ?_ ?_
        · (intro k u w w' _ _ h _; exact h)
        refine And.intro ?_ ?_
        · (intro k u w w' _ _ h _; exact h)
        refine And.intro ?_ ?_
        · exact litAt_stand HG2.out HVB.out
        refine And.intro ?_ ?_
        · exact pushW_stand HNE.out HG2.out rfl
        refine And.intro ?_ ?_
        · (intro k u w w' _ _ h _; exact h)
        refine And.intro ?_ ?_
        · (intro k u w w' _ _ h _; exact h)
        refine And.intro ?_ ?_
        · exact pushD_stand HNE.out HG2.out rfl (by decide)
        exact trivial
      case hI => exact pushI_start HOW.out
      case steps =>
        refine And.intro ?_ ?_
        · intro dn v w' hdk hI hdn hcl hd K hK
          simp only [allOf, word, List.getD_cons_zero, List.getD_cons_succ, isVal, and_true, true_and] at hd
          have HK := Lib.hid hK
          clear hK
          go_simp
          exact HK.out _ _ rfl (by simpa [PushI] using hI) (rfl)
        refine And.intro ?_ ?_
        · intro dn v w' hdk hI hdn hcl hd K hK
          simp only [allOf, word, List.getD_cons_zero, List.getD_cons_succ, isVal, and_true, true_and] at hd
          have HK := Lib.hid hK
          clear hK
          go_simp
          exact HK.out _ _ rfl (by simpa [PushI] using hI) (rfl)
        refine And.intro ?_ ?_
        · intro dn v w' hdk hI hdn hcl hd K hK
          simp only [allOf, word, List.getD_cons_zero, List.getD_cons_succ, isVal, and_true, true_and] at hd
          try simp only [hd] at hK
          have HK := Lib.hid hK
          clear hK
          go_simp
          exact HK.out _ _ rfl (by simpa [PushI] using hI) (rfl)
        refine And.intro ?_ ?_
        · intro dn v w' hdk hI hdn hcl hd K hK
          simp only [allOf, word, List.getD_cons_zero, List.getD_cons_succ, isVal, and_true, true_and] at hd
          try simp only [hd] at hK
          have HK := Lib.hid hK
          clear hK
          go_simp
          exact HK.out _ _ rfl (by simpa [PushI] using hI) (rfl)
        refine And.intro ?_ ?_
        · intro dn v w' hdk hI hdn hcl hd K hK
          simp only [allOf, word, List.getD_cons_zero, List.getD_cons_succ, isVal, and_true, true_and] at hd
          simp only [hd] at hK
          have c9 := (hI.cell (not_done (q := 12) hcl (not_done (q := 9) hcl hdk (by decide)) (by decide)) HHD.out 1).trans (show _ = some (.slice A d.act.pd.length c) from rfl)
          have HK := Lib.hid hK
          clear hK
          go_simp
          exact HK.out _ _ rfl (by simpa [PushI] using hI) (rfl)
        refine And.intro ?_ ?_
        · intro dn v w' hdk hI hdn hcl hd K hK
          simp only [allOf, word, List.getD_cons_zero, List.getD_cons_succ, isVal, and_true, true_and] at hd
          have HK := Lib.hid hK
          clear hK
          go_simp
          exact HK.out _ _ rfl (by simpa [PushI] using hI) (rfl)
        refine And.intro ?_ ?_
        · intro dn v w' hdk hI hdn hcl hd K hK
          simp only [allOf, word, List.getD_cons_zero, List.getD_cons_succ, isVal, and_true, true_and] at hd
          have HK := Lib.hid hK
          clear hK
          rw [if_pos (by rfl)]
          refine wp_load_block 77 (.tmp 5) rfl w.heap.size rfl (bv s).toArray 77 (0, 0) (hI.old BK2.out HWN.out) _ secUnder rfl HZ1.out ?_
          exact HK.out _ _ rfl (by simpa [PushI] using hI) rfl
        refine And.intro ?_ ?_
        · intro dn v w' hdk hI hdn hcl hd K hK
          simp only [allOf, word, List.getD_cons_zero, List.getD_cons_succ, isVal, and_true, true_and] at hd
          obtain ⟨h5, h6⟩ := hd
          have HK := Lib.hid hK
          clear hK
          rw [if_pos (by rfl)]
          refine wp_build_list 114 #[(0, .tmp 21), (1, .tmp 22)] rfl [(0, v 5), (1, v 6)] rfl (wrow (n, s)).toArray (by rw [h5, h6]; exact wrBuilt n s HS.out) ?_
          exact HK.out _ _ rfl (by simpa [PushI] using hI) rfl
        refine And.intro ?_ ?_
        · intro dn v w' hdk hI hdn hcl hd K hK
          simp only [allOf, word, List.getD_cons_zero, List.getD_cons_succ, isVal, and_true, true_and] at hd
          have HK := Lib.hid hK
          clear hK
          rw [if_pos (by rfl)]
          refine wp_slice_one 81 114 (.tmp 23) rfl 65 (.agg (.int .i64 0 :: bv noSec).toArray) (.agg (wrow (n, s)).toArray) hd Try.underlying81 wrInfo2 (by decide) (by decide) HSZ.out ?_
          exact HK.out _ _ (litAt_new hI.1.size (wrow (n, s)).toArray _ (by decide)) (hI.alloc HG2.out _ (by decide) (by decide)) ⟨_, rfl⟩
        refine And.intro ?_ ?_
        · intro dn v w' hdk hI hdn hcl hd K hK
          simp only [allOf, word, List.getD_cons_zero, List.getD_cons_succ, isVal, and_true, true_and] at hd
          obtain ⟨h4, p9, h8, hp9, hs9⟩ := hd
          have hI9 := hI.2.1 hdk
          have HK := Lib.hid hK
          clear hK
          refine step_append_any (by rfl) (.tmp 20) (.tmp 24) 81 (by rfl) 0 114 (.agg (.int .i64 0 :: bv noSec).toArray) 65 72 Try.underlying81 wrInfo (by rfl) (by decide) (by decide) (.slice A d.act.pd.length c) d.act.pd.length (pv d.act.pd).flatten h4 hI9 (some ⟨p9, 0, none⟩) 1 1 (wrow (n, s)) h8 hs9 HWL.out HW1.out HNB.out (Nat.zero_le _) ?_
          intro v3 w3 ho3 hg3 _ hat3
          exact HK.out _ _ (pushW_at hI.1.size ho3 hat3) (hI.app rfl (by decide) HNE.out HG2.out hg3) (Keep.of_grown hg3)
        refine And.intro ?_ ?_
        · intro dn v w' hdk hI hdn hcl hd K hK
          simp only [allOf, word, List.getD_cons_zero, List.getD_cons_succ, isVal, and_true, true_and] at hd
          try simp only [hd] at hK
          have HK := Lib.hid hK
          clear hK
          go_simp
          exact HK.out _ _ rfl (by simpa [PushI] using hI) (rfl)
        refine And.intro ?_ ?_
        · intro dn v w' hdk hI hdn hcl hd K hK
          simp only [allOf, word, List.getD_cons_zero, List.getD_cons_succ, isVal, and_true, true_and] at hd
          try simp only [hd] at hK
          have HK := Lib.hid hK
          clear hK
          go_simp
          exact HK.out _ _ rfl (by simpa [PushI] using hI) (rfl)
        refine And.intro ?_ ?_
        · intro dn v w' hdk hI hdn hcl hd K hK
          simp only [allOf, word, List.getD_cons_zero, List.getD_cons_succ, isVal, and_true, true_and] at hd
          obtain ⟨h9, h11⟩ := hd
          obtain ⟨A9, k9, hv9, -⟩ := own_form h9.1
          simp only [h11, hv9] at hK h9
          have hd9 : dn 9 = true := by simp only [allTrue, List.getD_cons_zero, List.getD_cons_succ] at hdn; exact hdn.1
          have h9 := Lib.hid h9
          have c9 := (hI.cell hdk HHD.out 1).trans (show _ = some (.slice A d.act.pd.length c) from rfl)
          have f9 := free_of_block ((hI.2.2 hdk).trans HHD.out) 1
          have HK := Lib.hid hK
          clear hK
          go_simp
          exact HK.out undef _ (pushD_at h9.out HNE.out HG2.out ((hI.2.2 hdk).trans HHD.out) undef) (hI.set rfl hd9 (by decide) _) ⟨_, rfl⟩
        exact trivial
      intro v w5 dn hall hI hd
      simp only [allOf, word, List.getD_cons_zero, List.getD_cons_succ, isVal, and_true, true_and] at hd
      obtain ⟨h0, h1, h2, h3, h4, h5, h6, h7, -, -, h10, h11, ⟨v5, ⟨ho5, hv5⟩, hh5⟩⟩ := hd
      simp only [h0, h1, h2, h3, h4, h5, h6, h7, h10, h11]
      clear h0 h1 h2 h3 h4 h5 h6 h7 h10 h11
      -- end region dk5
      obtain ⟨k1, -, -⟩ := hI
      have K1 := Lib.hid k1
      have D5 := Lib.hid (IsD.pushed I2.out (x := (n, s)) ⟨by rw [HST.out]; exact HN.out, HS.out⟩ (by rw [HPD.out]; exact HZ.out) k1 ho5 hv5 hh5)
      have V5 := Lib.hid hv5
      have S5 := Lib.hid ho5.lt
      clear k1 ho5 hv5 hh5 hall
      go_wp2_with fail
      go_ret
      have hgs := K1.out.size
      refine ⟨ret_int PE.out.symm, (fun k => k = g ∨ k = sb ∨ v5.ownBlock = some k), ⟨⟨sb, v5, by rw [PP'.out, ← HPD.out]; exact D5.out, .inr (.inl rfl), fun k hk => .inr (.inr hk)⟩, .inl rfl, ?_⟩, ?_, ?_⟩
      · rintro k (rfl | rfl | hk)
        · have := HG2.out; omega
        · have := I6.out _ I3.out; omega
        · exact (S5.out k hk).2
      · refine (KK.out.trans HK2.out (fun i hi h => h)).trans K1.out (fun i hi h => ?_)
        have hF : F2 i := by
          rcases h with h | h
          · exact I4.out _ h
          · exact h ▸ I5.out
        rcases HF2.out i hF with h | h
        · exact h
        · have := KK.out.size; omega
      · intro k hk
        have hF : F2 k ∨ w2.heap.size ≤ k := by
          rcases hk with rfl | rfl | hk
          · exact .inl I5.out
          · exact .inl I3.out
          · rcases V5.out k hk with h | h
            · exact .inl (I4.out _ h)
            · exact .inr h
        rcases hF with h | h
        · rcases HF2.out k h with h | h
          · exact .inl h
          · right; have := KK.out.size; omega
        · right; have := KK.out.size; have := HK2.out.size; omega
    · have hne : (d.actE == 0) = false := beq_eq_false_iff_ne.2 ha
      have PP' : Hid (d.put n s = d.act) := Lib.hid (PP.out.trans (if_neg ha))
      clear ha
      go_wp2_with fail
      go_ret
      refine ⟨ret_int PE.out.symm, F2, by rw [PP'.out]; exact HD2.out, KK.out.trans HK2.out (fun i hi h => h), fun k hk => ?_⟩
      rcases HF2.out k hk with h | h
      · exact .inl h
      · right; have := KK.out.size; omega
  · have hd' : d.there i = false := by simpa using hd
    have PE : Hid (d.putE i = 71) := Lib.hid (if_neg hd)
    have PP : Hid (d.put i s = d) := Lib.hid (if_neg hd)
    clear hd
    go_enter Try.func39, Try.ntmps39
    go_wp2_with fail
    refine TH.out.mono ?_
    rintro e w' ⟨rfl, rfl⟩
    generalize w.alloc (.cells (bv s).toArray 77) = w1 at *
    go_wp2_with fail
    go_ret
    exact ⟨ret_int PE.out.symm, by rw [PP.out]; exact ⟨F, H1.out, KK.out, fun _ h => .inl h⟩⟩
end Go.Proofs.Ytogkibikghbghaa.Disk
