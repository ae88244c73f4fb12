/- The walk of the law DiskRuns of floodgate's disk layer. There are no conditions. -/
import Derived.Test.YtndcgofjhlndgaaFgDiskRuns0
import Derived.Test.YtndcgofjhlndgaaFgWords
set_option linter.unusedVariables false
set_option linter.unusedSimpArgs false
namespace Go.Proofs.Ytndcgofjhlndgaa.Disk
open Go.RowKit Go.Proofs.Ytndcgofjhlndgaa.Fg

/-- Behind the switch. -/
def Sw (W : World) (g wb ab : Nat) (O : Obj) (j : Nat) (u v : Value) (w : World) : Prop := ∃ d F C x, u = .int .i64 x ∧ v = .int .i64 x ∧ RN W w g wb ab O d d F C ∧ d.pd.length ≤ j + 1
def DN (W : World) (g wb j : Nat) (w : World) : Prop := ∃ d F C, R0 W w g wb d d F C ∧ d.pd.length ≤ j
theorem info5 {C : Array Value} (h : C.size = 5) : (Try.prog.info? 41).map (·.size) = some C.size := by rw [h]; exact info_rd
def PendWord (d : Dk) (u : Value) (w : World) : Prop := ∃ A c, u = .slice A d.pd.length c ∧ Fg.Src w A d.pd.length c (atv d.pd)
theorem pendWord_stand {d : Dk} {I : World → Prop} : ∀ (u : Value) (w w' : World), PendWord d u w → I w → Below w.heap.size w w' → PendWord d u w' := fun u w w' ⟨A, c, h1, h2⟩ _ hb => ⟨A, c, h1, h2.same fun ad had hne => hb.block _ (h2.lt had hne)⟩
theorem below_dr {B : Nat} {w0 w : World} (h : Below B w0 w) : Below B w0 w.drew := ⟨h.os, h.tape, h.output, h.size, h.block⟩
theorem below_drN {B : Nat} {w0 w : World} (h : Below B w0 w) (q : Nat) : Below B w0 (w.drewN q) := ⟨h.os, h.tape, h.output, h.size, h.block⟩
theorem put_pd (d : Dk) (i : Int) (s : List Int) : (d.put i s).pd.length ≤ d.pd.length + 1 := by
  unfold Dk.put
  split
  · split
    · simp
    · rw [Dk.act_pd]; omega
  · omega
theorem sync_pd (d : Dk) : d.sync.pd.length ≤ d.pd.length := by
  unfold Dk.sync
  split
  · simp
  · rw [Dk.act_pd]; omega

set_option maxRecDepth 100000 in
set_option maxHeartbeats 4000000 in
theorem runs_any (sectors : Int) (hw : (Lit.int .i64 sectors).wf = true) (A : Option Addr) (c : Nat) (l : List Act1) (W : World) (hs : Acts W A l) :
    Calls Try.prog 5 #[.int .i64 sectors, .slice A l.length c] W fun e w' => e = .returned (.bool true) ∧ Below W.heap.size W w' := by
  have HS := Lib.hid hs
  clear hw hs
  go_enter Try.func5, Try.ntmps5
  go_wp2_with fail
  refine (alive_any W).mono ?_
  rintro e w0 ⟨rfl, hb0⟩
  have HB0 := Lib.hid hb0
  clear hb0
  by_cases h0 : 600 < sectors
  · go_wp2_with fail
    go_ret
    exact ⟨rfl, HB0.out⟩
  · by_cases h1 : (100 : Int) < l.length
    · go_wp2_with fail
      go_ret
      exact ⟨rfl, HB0.out⟩
    · obtain ⟨n, hn⟩ : ∃ n : Nat, (n : Int) = if sectors < 0 then 0 else if 512 < sectors then 512 else sectors := by
        refine ⟨(if sectors < 0 then 0 else if 512 < sectors then 512 else sectors : Int).toNat, ?_⟩
        split
        · omega
        · split <;> omega
      have HN := Lib.hid hn
      clear hn
      go_wp2_with fail
      refine (new_any sectors n _ HN.out).mono ?_
      rintro e w1 ⟨g, F, rfl, hd, hb, hF⟩
      have L1 : LD W w1 g (Dk.new n) F := ⟨hd, HB0.out.trans (hb.mono HB0.out.size), fun k hk => Nat.le_trans HB0.out.size (hF k hk)⟩
      have LL1 := Lib.hid L1
      clear hd hb hF L1
      go_wp2_with fail
      refine (refnew_any sectors n w1 HN.out (fun k => W.heap.size ≤ k ∧ ¬ F k)).mono ?_
      rintro e w2 ⟨v2, rfl, hr2, hb2⟩
      obtain ⟨C, rfl, hc1, hc2⟩ := hr2.form
      have hs1 := LL1.out.below.size
      have L2 := LL1.out.later hb2
      have ZZ := heap_alloc_at w2 (.cells #[.slice none 0 0, .slice none 0 0, .bool false, .int .i64 0, .bool false] 41)
      have hs2 := L2.below.size
      have X0 := Lib.hid ZZ
      have U1 := Lib.hid (info5 hc1)
      have U2 : Hid ((#[.slice none 0 0, .slice none 0 0, .bool false, .int .i64 0, .bool false] : Array Value).size = C.size) := Lib.hid (by rw [hc1]; rfl)
      have U3 := Lib.hid hc2
      have b3 : Below w2.heap.size w2 ((w2.alloc (.cells #[.slice none 0 0, .slice none 0 0, .bool false, .int .i64 0, .bool false] 41)).setRow w2.heap.size C) := below_setRow ((Below.refl _ _).alloc (Nat.le_refl _) _) (Nat.le_refl _) _
      have hnw : ¬ F w2.heap.size := fun h => Nat.lt_irrefl _ (L2.disk.lt _ h)
      have start : DN W g w2.heap.size 0 ((w2.alloc (.cells #[.slice none 0 0, .slice none 0 0, .bool false, .int .i64 0, .bool false] 41)).setRow w2.heap.size C) := by
        refine ⟨Dk.new n, F, C, r0_set L2 ⟨hnw, hs2⟩ ((Below.refl _ _).alloc (Nat.le_refl _) _) ZZ ((hr2.below ((Below.refl _ _).alloc (Nat.le_refl _) _)).mono (fun k hlt hk => ?_)), by simp [Dk.new]⟩
        rcases hk with hk | hk
        · exact .inl hk
        · by_cases hk2 : w2.heap.size ≤ k
          · exact .inr hk2
          · exact .inl ⟨by omega, fun hF => by have := LL1.out.disk.lt k hF; omega⟩
      have ST := Lib.hid start
      clear ZZ b3 hnw start hc1 hc2 hr2 hb2 L2
      go_upto_region 7 with (first
        | refine wpList_store_block rfl 41 (.tmp 6) (.tmp 33) rfl w2.heap.size C rfl rfl #[.slice none 0 0, .slice none 0 0, .bool false, .int .i64 0, .bool false] 41 X0.out U1.out U2.out U3.out ?_)
      generalize (w2.alloc (.cells #[.slice none 0 0, .slice none 0 0, .bool false, .int .i64 0, .bool false] 41)).setRow w2.heap.size C = w3 at *
      obtain ⟨wb, hwb⟩ : ∃ wb, w2.heap.size = wb := ⟨_, rfl⟩
      rw [hwb] at ST ⊢
      have ENV := Lib.hid (fun (w' : World) (hb : Below W.heap.size W w') => HS.out.below hb)
      clear hwb X0 U1 U2 U3 hs2
      go_wp2_with fail
      go_loopg [36] l.length (fun k v wr => ∃ j : Nat, j + k = l.length ∧ v = .int .i64 j ∧ DN W g wb j wr)
      case atStart => exact ⟨0, Nat.zero_add _, rfl, ST.out⟩
      case round =>
        obtain ⟨j, hj, rfl, d, F, C, r0, hpd⟩ := hrel
        have RR := Lib.hid r0
        have HPD := Lib.hid hpd
        clear r0 hpd ST
        by_cases hlt : j < l.length
        · obtain ⟨a, ha⟩ : ∃ a, l[j]? = some a := ⟨_, List.getElem?_eq_getElem hlt⟩
          obtain ⟨b, o, A', c', rfl, hrg0, hsk, hbl, hat⟩ := HS.out.each j a ha
          have hrg : wr.rangeAt b (o + j * 4) [.int .i64 a.kind, .int .i64 a.at_, .int .u8 a.byte, .slice A' a.keep.length c'] := fun i v hv => (RR.out.ld.below.cell (p := ⟨b, o + j * 4 + i, none⟩) hbl).trans (hrg0 i v hv)
          have HRG := Lib.hid hrg
          have HK := Lib.hid hsk
          have SK0 := Lib.hid hsk
          have HAT := Lib.hid hat
          have Y1 : Hid ((Try.prog.info? 44).map (·.size) = some ([.int .i64 a.kind, .int .i64 a.at_, .int .u8 a.byte, .slice A' a.keep.length c'] : List Value).length) := Lib.hid (by kernel_rfl)
          clear ha hrg hsk hat hrg0
          go_upto_region 11 with (refine wpList_load_mid rfl 44 (.tmp 38) rfl b (o + j * 4) rfl [.int .i64 a.kind, .int .i64 a.at_, .int .u8 a.byte, .slice A' a.keep.length c'] _ HRG.out Try.underlying44 rfl Y1.out ?_)
          have HC5 : Hid (C.size = 5) := Lib.hid (by obtain ⟨_, _, _, _, _, e, -⟩ := RR.out.ref; injection e with e; rw [e]; rfl)
          have U1 := Lib.hid (info5 HC5.out)
          have R4' : RN W (wr.alloc (Obj.cells #[.int .i64 a.kind, .int .i64 a.at_, .int .u8 a.byte, .slice A' a.keep.length c'] 44)) g wb wr.heap.size (Obj.cells #[.int .i64 a.kind, .int .i64 a.at_, .int .u8 a.byte, .slice A' a.keep.length c'] 44) d d F C := ⟨RR.out.later ((Below.refl _ _).alloc (Nat.le_refl _) _), heap_alloc_at wr _, fun h => Nat.lt_irrefl _ (RR.out.ld.disk.lt _ h), by have := block_lt RR.out.hwb; omega⟩
          have R4 := Lib.hid R4'
          have SK : Hid (∀ w', Below W.heap.size W w' → Fg.Src w' A' a.keep.length c' (blv a.keep)) := Lib.hid (fun w' hb => SK0.out.same fun ad had hne => hb.block _ (SK0.out.lt had hne))
          have HP6 : Hid (d.pd.length < 1000000) := Lib.hid (by have := HPD.out; omega)
          clear R4'
          go_upto_block 2 with fail
          generalize wr.alloc (Obj.cells #[.int .i64 a.kind, .int .i64 a.at_, .int .u8 a.byte, .slice A' a.keep.length c'] 44) = w4 at *
          have m0 : w4.cell? ⟨wr.heap.size, 0, none⟩ = some (.int .i64 a.kind) := cell_of_block R4.out.hab 0
          have m1 : w4.cell? ⟨wr.heap.size, 1, none⟩ = some (.int .i64 a.at_) := cell_of_block R4.out.hab 1
          have m2 : w4.cell? ⟨wr.heap.size, 2, none⟩ = some (.int .u8 a.byte) := cell_of_block R4.out.hab 2
          go_cut [9, 10] (fun u v wx => Sw W g wb wr.heap.size (Obj.cells #[.int .i64 a.kind, .int .i64 a.at_, .int .u8 a.byte, .slice A' a.keep.length c'] 44) j u v wx)
          case first =>
            by_cases h0 : a.kind = 0
            · have k0 : (a.kind == 0) = true := beq_iff_eq.2 h0
              clear h0
              go_wp2_with (refine wpList_build_list rfl 25 #[(0, .tmp 48), (1, .const (.int .u8 7))] rfl [(0, .int .u8 a.byte), (1, .int .u8 7)] rfl (bv (sec2 a.byte 7)).toArray (secBuilt2 a.byte 7) ?_)
              refine (write_any R4.out.r.ld.disk a.at_ (sec2 a.byte 7) (sec2_len _ _) HP6.out).mono ?_
              rintro e w5 ⟨rfl, ht⟩
              obtain ⟨F5, r5, -, -⟩ := R4.out.turn ht
              have R5 := Lib.hid r5
              have n1 : w5.cell? ⟨wr.heap.size, 1, none⟩ = some (.int .i64 a.at_) := cell_of_block r5.hab 1
              have n2 : w5.cell? ⟨wr.heap.size, 2, none⟩ = some (.int .u8 a.byte) := cell_of_block r5.hab 2
              clear ht r5
              go_wp2_with (first
                | refine wpList_load_block rfl 41 (.tmp 6) rfl wb rfl C 41 (0, 0) R5.out.r.hwb _ Try.underlying41 rfl U1.out ?_
                | refine wpList_build_list rfl 25 #[(0, .tmp 56), (1, .const (.int .u8 7))] rfl [(0, .int .u8 a.byte), (1, .int .u8 7)] rfl (bv (sec2 a.byte 7)).toArray (secBuilt2 a.byte 7) ?_)
              refine (refput_any R5.out.r.ref a.at_ (sec2 a.byte 7) (sec2_len _ _) HP6.out).mono ?_
              rintro e w6 ⟨v6, rfl, hr6, hb6⟩
              obtain ⟨C6, rfl, hc1, hc2⟩ := hr6.form
              have V1 := Lib.hid (info5 hc1)
              have V2 : Hid (C.size = C6.size) := Lib.hid (by rw [hc1]; exact HC5.out)
              have V3 := Lib.hid hc2
              have Q6 := Lib.hid ((hb6.block _ (block_lt R5.out.r.hwb)).trans R5.out.r.hwb)
              have S6 := Lib.hid (R5.out.set hb6 hr6)
              clear hr6 hb6 hc1 hc2
              go_wp2_with (refine wpList_store_block rfl 41 (.tmp 6) (.tmp 59) rfl wb C6 rfl rfl C 41 Q6.out V1.out V2.out V3.out ?_)
              go_meet
              exact ⟨_, _, _, _, rfl, rfl, S6.out, Nat.le_trans (put_pd d _ _) (by have := HPD.out; omega)⟩
            · have k0 : (a.kind == 0) = false := beq_eq_false_iff_ne.2 h0
              by_cases h1 : a.kind = 1
              · have k1 : (a.kind == 1) = true := beq_iff_eq.2 h1
                clear h0 h1
                go_wp2_with fail
                refine (sync_any R4.out.r.ld.disk).mono ?_
                rintro e w5 ⟨rfl, ht⟩
                obtain ⟨F5, r5, -, -⟩ := R4.out.turn ht
                have R5 := Lib.hid r5
                have n1 : w5.cell? ⟨wr.heap.size, 1, none⟩ = some (.int .i64 a.at_) := cell_of_block r5.hab 1
                have n2 : w5.cell? ⟨wr.heap.size, 2, none⟩ = some (.int .u8 a.byte) := cell_of_block r5.hab 2
                clear ht r5
                go_wp2_with (refine wpList_load_block rfl 41 (.tmp 6) rfl wb rfl C 41 (0, 0) R5.out.r.hwb _ Try.underlying41 rfl U1.out ?_)
                refine (refsync_any R5.out.r.ref).mono ?_
                rintro e w6 ⟨v6, rfl, hr6, hb6⟩
                obtain ⟨C6, rfl, hc1, hc2⟩ := hr6.form
                have V1 := Lib.hid (info5 hc1)
                have V2 : Hid (C.size = C6.size) := Lib.hid (by rw [hc1]; exact HC5.out)
                have V3 := Lib.hid hc2
                have Q6 := Lib.hid ((hb6.block _ (block_lt R5.out.r.hwb)).trans R5.out.r.hwb)
                have S6 := Lib.hid (R5.out.set hb6 hr6)
                clear hr6 hb6 hc1 hc2
                go_wp2_with (refine wpList_store_block rfl 41 (.tmp 6) (.tmp 68) rfl wb C6 rfl rfl C 41 Q6.out V1.out V2.out V3.out ?_)
                go_meet
                exact ⟨_, _, _, _, rfl, rfl, S6.out, Nat.le_trans (sync_pd d) (by have := HPD.out; omega)⟩
              · have k1 : (a.kind == 1) = false := beq_eq_false_iff_ne.2 h1
                by_cases h2 : a.kind = 2
                · have k2 : (a.kind == 2) = true := beq_iff_eq.2 h2
                  clear h0 h1 h2
                  go_wp2_with fail
                  refine (brk_any R4.out.r.ld.disk a.at_ HAT.out.1.2).mono ?_
                  rintro e w5 ⟨rfl, ht⟩
                  obtain ⟨F5, r5, -, -⟩ := R4.out.turn ht
                  have R5 := Lib.hid r5
                  have n1 : w5.cell? ⟨wr.heap.size, 1, none⟩ = some (.int .i64 a.at_) := cell_of_block r5.hab 1
                  have n2 : w5.cell? ⟨wr.heap.size, 2, none⟩ = some (.int .u8 a.byte) := cell_of_block r5.hab 2
                  clear ht r5
                  go_wp2_with (refine wpList_load_block rfl 41 (.tmp 6) rfl wb rfl C 41 (0, 0) R5.out.r.hwb _ Try.underlying41 rfl U1.out ?_)
                  refine (refbrk_any R5.out.r.ref a.at_ HAT.out.1).mono ?_
                  rintro e w6 ⟨v6, rfl, hr6, hb6⟩
                  obtain ⟨C6, rfl, hc1, hc2⟩ := hr6.form
                  have V1 := Lib.hid (info5 hc1)
                  have V2 : Hid (C.size = C6.size) := Lib.hid (by rw [hc1]; exact HC5.out)
                  have V3 := Lib.hid hc2
                  have Q6 := Lib.hid ((hb6.block _ (block_lt R5.out.r.hwb)).trans R5.out.r.hwb)
                  have S6 := Lib.hid (R5.out.set hb6 hr6)
                  clear hr6 hb6 hc1 hc2
                  go_wp2_with (refine wpList_store_block rfl 41 (.tmp 6) (.tmp 79) rfl wb C6 rfl rfl C 41 Q6.out V1.out V2.out V3.out ?_)
                  go_meet
                  exact ⟨_, _, _, 0, rfl, rfl, S6.out, by have := HPD.out; show d.pd.length ≤ _; omega⟩
                · have k2 : (a.kind == 2) = false := beq_eq_false_iff_ne.2 h2
                  by_cases h3 : a.kind = 3
                  · have k3 : (a.kind == 3) = true := beq_iff_eq.2 h3
                    clear h0 h1 h2 h3
                    have m3 : (w4.alloc (.cells #[] 4)).cell? ⟨wr.heap.size, 3, none⟩ = some (.slice A' a.keep.length c') := cell_of_block ((heap_alloc_old _ _ (block_lt R4.out.hab)).trans R4.out.hab) 3
                    have hk1 := HK.out.most
                    have hk2 := HK.out.cap
                    have hs4 := R4.out.r.ld.below.size
                    go_wp2_with (at_builtin; refine wpList_append_any rfl (.tmp 82) (.tmp 84) 33 rfl w4.heap.size 4 (.bool false) 1 1 Try.underlying33 info_bool rfl (by decide) (by decide) (.slice (some ⟨w4.heap.size, 0, none⟩) 0 0) 0 [] rfl ?a1 A' a.keep.length c' (blv a.keep) rfl ?a2 ?a3 ?a4 ?a5 ?a6 ?_)
                    case a1 => exact World.ownsRow_made w4 #[] 0 (Nat.le_refl _) (Nat.zero_le _) rfl
                    case a2 => exact (SK.out w4 R4.out.r.ld.below).same fun ad had hne => heap_alloc_old _ _ ((SK.out w4 R4.out.r.ld.below).lt had hne)
                    case a3 => simp [blv]
                    case a4 => exact fun u hu => by obtain ⟨x, _, rfl⟩ := List.mem_map.1 hu; rfl
                    case a5 => have := HAT.out.2; omega
                    case a6 => simp
                    intro v5 w5 ho5 hg5 _ _
                    try simp only [Nat.zero_add, List.nil_append] at ho5
                    obtain ⟨A5, c5, rfl, -⟩ := own_form ho5
                    have hb5 : Below w4.heap.size w4 w5 := ((Below.refl _ _).alloc (Nat.le_refl _) (.cells #[] 4)).grown hg5 (by simp) (by simp [Value.ownBlock])
                    have R5 := Lib.hid (R4.out.later hb5)
                    have CR := Lib.hid (crash_any R5.out.r.ld.disk a.keep A5 c5 (Fg.Src.of_own ho5) (fun ad had hF => by have h1 := (ho5.lt ad.block (by rw [had]; rfl)).1; have h2 := R4.out.r.ld.disk.lt _ hF; omega))
                    clear ho5 hg5 hb5 hk1 hk2
                    go_wp2_with fail
                    refine CR.out.mono ?_
                    rintro e w6 ⟨rfl, ht⟩
                    obtain ⟨F6, r6, -, -⟩ := R5.out.turn ht
                    have R6 := Lib.hid r6
                    clear ht r6 CR
                    have m4 : w6.cell? ⟨wr.heap.size, 3, none⟩ = some (.slice A' a.keep.length c') := cell_of_block R6.out.hab 3
                    go_wp2_with (refine wpList_load_block rfl 41 (.tmp 6) rfl wb rfl C 41 (0, 0) R6.out.r.hwb _ Try.underlying41 rfl U1.out ?_)
                    refine (refcrash_any R6.out.r.ref a.keep A' c' (SK.out _ R6.out.r.ld.below)).mono ?_
                    rintro e w7 ⟨v7, rfl, hr7, hb7⟩
                    obtain ⟨C7, rfl, hc1, hc2⟩ := hr7.form
                    have V1 := Lib.hid (info5 hc1)
                    have V2 : Hid (C.size = C7.size) := Lib.hid (by rw [hc1]; exact HC5.out)
                    have V3 := Lib.hid hc2
                    have Q7 := Lib.hid ((hb7.block _ (block_lt R6.out.r.hwb)).trans R6.out.r.hwb)
                    have S7 := Lib.hid (R6.out.set hb7 hr7)
                    clear hr7 hb7 hc1 hc2
                    go_wp2_with (refine wpList_store_block rfl 41 (.tmp 6) (.tmp 92) rfl wb C7 rfl rfl C 41 Q7.out V1.out V2.out V3.out ?_)
                    go_meet
                    exact ⟨_, _, _, 0, rfl, rfl, S7.out, by show ([] : List (Nat × List Int)).length ≤ _; simp⟩
                  · have k3 : (a.kind == 3) = false := beq_eq_false_iff_ne.2 h3
                    clear h0 h1 h2 h3
                    go_wp2_with fail
                    go_meet
                    exact ⟨_, _, _, 0, rfl, rfl, R4.out, by have := HPD.out; omega⟩
          case rest =>
            obtain ⟨d5, F5, C5, x, rfl, rfl, r5, hp5⟩ := hcut
            have R5 := Lib.hid r5
            have HP5 := Lib.hid hp5
            have p1 : wc.cell? ⟨wr.heap.size, 1, none⟩ = some (.int .i64 a.at_) := cell_of_block r5.hab 1
            have L64 : Hid ((d5.read a.at_).length = 64) := Lib.hid (Dk.read_64 r5.r.ld.disk.ok a.at_)
            have Z1 := Lib.hid (sec_toArray L64.out)
            have Z2 : Hid ((bv noSec).toArray.size = (bv (d5.read a.at_)).toArray.size) := Lib.hid (by simp [bv, noSec, L64.out])
            have Z3 := Lib.hid (sec_one (d5.read a.at_))
            have HC6 : Hid (C5.size = 5) := Lib.hid (by obtain ⟨_, _, _, _, _, e, -⟩ := r5.r.ref; injection e with e; rw [e]; rfl)
            have U5 := Lib.hid (info5 HC6.out)
            clear r5 hp5 R4 m0 m1 m2
            go_wp2_with fail
            refine (read_any R5.out.r.ld.disk a.at_).mono ?_
            rintro e w6 ⟨rfl, hb6⟩
            have R6 := Lib.hid (R5.out.later hb6)
            clear hb6
            have R06 := Lib.hid (heap_alloc_at w6 (.cells (bv noSec).toArray 25))
            have R16 := Lib.hid (setRow_at (bv (d5.read a.at_)).toArray R06.out)
            have R26 : Hid (Below w6.heap.size w6 ((w6.alloc (.cells (bv noSec).toArray 25)).setRow w6.heap.size (bv (d5.read a.at_)).toArray)) := Lib.hid (below_setRow ((Below.refl _ _).alloc (Nat.le_refl _) _) (Nat.le_refl _) _)
            go_upto_region 26 with (first
              | refine wpList_alloc_as rfl 25 rfl (bv noSec).toArray secZero ?_
              | refine wpList_store_block rfl 25 (.tmp 12) (.tmp 98) rfl w6.heap.size (bv (d5.read a.at_)).toArray rfl rfl (bv noSec).toArray 25 R06.out Z1.out Z2.out Z3.out ?_)
            generalize (w6.alloc (.cells (bv noSec).toArray 25)).setRow w6.heap.size (bv (d5.read a.at_)).toArray = w7 at *
            have R7 := Lib.hid (R6.out.later R26.out)
            have p2 : w7.cell? ⟨wr.heap.size, 1, none⟩ = some (.int .i64 a.at_) := cell_of_block R7.out.hab 1
            go_wp2_with (refine wpList_load_block rfl 41 (.tmp 6) rfl wb rfl C5 41 (0, 0) R7.out.r.hwb _ Try.underlying41 rfl U5.out ?_)
            refine (refread_any R7.out.r.ref a.at_).mono ?_
            rintro e w8 ⟨rfl, hb8⟩
            have R8 := Lib.hid (R7.out.later hb8)
            have T8 := Lib.hid ((hb8.block _ (block_lt R16.out)).trans R16.out)
            clear hb8
            have R08 := Lib.hid (heap_alloc_at w8 (.cells (bv noSec).toArray 25))
            have R18 := Lib.hid (setRow_at (bv (d5.read a.at_)).toArray R08.out)
            have R28 : Hid (Below w8.heap.size w8 ((w8.alloc (.cells (bv noSec).toArray 25)).setRow w8.heap.size (bv (d5.read a.at_)).toArray)) := Lib.hid (below_setRow ((Below.refl _ _).alloc (Nat.le_refl _) _) (Nat.le_refl _) _)
            go_upto_region 27 with (first
              | refine wpList_alloc_as rfl 25 rfl (bv noSec).toArray secZero ?_
              | refine wpList_store_block rfl 25 (.tmp 14) (.tmp 105) rfl w8.heap.size (bv (d5.read a.at_)).toArray rfl rfl (bv noSec).toArray 25 R08.out Z1.out Z2.out Z3.out ?_)
            generalize (w8.alloc (.cells (bv noSec).toArray 25)).setRow w8.heap.size (bv (d5.read a.at_)).toArray = w9 at *
            have R9 := Lib.hid (R8.out.later R28.out)
            have T9 := Lib.hid ((R28.out.block _ (block_lt T8.out)).trans T8.out)
            obtain ⟨A1, c1, A2, c2, lr, hC5, rv, -⟩ := R9.out.r.ref
            injection hC5 with hC5
            have HW9 : Hid (w9.heap[wb]? = some (.cells (rcells A1 c1 A2 c2 lr d5) 41)) := Lib.hid (hC5 ▸ R9.out.r.hwb)
            have ROW := Lib.hid rv.rows.2
            have HOK := Lib.hid rv.few.2
            clear rv hC5
            have q1 : ∀ w : World, (Op.equalIn 10000 25 (.agg (bv (d5.read a.at_)).toArray) (.agg (bv (d5.read a.at_)).toArray)).run Try.prog w = .ok true w := fun w => by rw [sec_eq _ _ L64.out L64.out]; simp
            apply wp_region_words (fun w w' => Below w.heap.size w w') (fun w' => Below w9.heap.size w9 w')
              [isVal _, isVal _, isVal _, isVal _, isVal (.agg (bv (d5.read a.at_)).toArray), isVal (.agg (bv (d5.read a.at_)).toArray), isVal _, isVal _, isVal _, isVal _, isVal _, isVal _, isVal _, isVal _, isVal _, isVal (.bool d5.down), isVal _, isVal (.bool d5.down), isVal _, isVal _, isVal _, isVal _, PendWord d5, isVal _, isVal (.slice A2 d5.pd.length c2), isVal _, isVal _, isVal _]
              [[], [], [0, 1], [2], [3], [3], [3, 4, 5], [3, 6], [7], [8], [8], [8, 9, 10], [8, 11], [12], [13], [13, 14], [13], [13, 16], [13, 15, 17], [13, 18], [19], [20], [20, 21], [20], [20, 23], [20, 22, 24], [20, 25], [20, 26]] [0, 1, 2, 3, 4, 5, 6, 7, 8, 9, 10, 11, 12, 13, 14, 15, 16, 17, 18, 19, 20, 21, 22, 23, 24, 25, 26, 27] (by kernel_rfl) (by kernel_rfl) ?hF ?stand ?hI ?steps ?fin
            case hF => intro v; simp [fillFrom, Act.put]; rfl
            case stand =>
              repeat' (first | exact trivial | (refine And.intro ?_ ?_))
              all_goals first | exact pendWord_stand | (intro u w w' h _ _; exact h)
            case hI => exact below_dr (Below.refl _ _)
            case steps =>
              refine And.intro ?_ ?_
              · intro v w' hI hd K hK
                simp only [allOf, word, List.getD_cons_zero, List.getD_cons_succ, isVal, and_true, true_and] at hd
                have HK := Lib.hid hK
                clear hK
                go_simp
                exact HK.out _ _ rfl hI (Below.refl _ _)
              refine And.intro ?_ ?_
              · intro v w' hI hd K hK
                simp only [allOf, word, List.getD_cons_zero, List.getD_cons_succ, isVal, and_true, true_and] at hd
                have HK := Lib.hid hK
                clear hK
                go_simp
                exact HK.out _ _ rfl hI (Below.refl _ _)
              refine And.intro ?_ ?_
              · intro v w' hI hd K hK
                simp only [allOf, word, List.getD_cons_zero, List.getD_cons_succ, isVal, and_true, true_and] at hd
                try simp only [hd] at hK
                have HK := Lib.hid hK
                clear hK
                go_simp
                exact HK.out _ _ rfl hI (Below.refl _ _)
              refine And.intro ?_ ?_
              · intro v w' hI hd K hK
                simp only [allOf, word, List.getD_cons_zero, List.getD_cons_succ, isVal, and_true, true_and] at hd
                try simp only [hd] at hK
                have HK := Lib.hid hK
                clear hK
                go_simp
                exact HK.out _ _ rfl hI (Below.refl _ _)
              refine And.intro ?_ ?_
              · intro v w' hI hd K hK
                simp only [allOf, word, List.getD_cons_zero, List.getD_cons_succ, isVal, and_true, true_and] at hd
                have HK := Lib.hid hK
                clear hK
                rw [if_pos (by simp [Region.wanted, yielded, hd])]
                refine wp_load_block 25 (.tmp 12) rfl w6.heap.size rfl (bv (d5.read a.at_)).toArray 25 (0, 0) ((hI.block _ (block_lt T9.out)).trans T9.out) _ secUnder rfl Z1.out ?_
                exact HK.out _ _ rfl hI (Below.refl _ _)
              refine And.intro ?_ ?_
              · intro v w' hI hd K hK
                simp only [allOf, word, List.getD_cons_zero, List.getD_cons_succ, isVal, and_true, true_and] at hd
                have HK := Lib.hid hK
                clear hK
                rw [if_pos (by simp [Region.wanted, yielded, hd])]
                refine wp_load_block 25 (.tmp 14) rfl w8.heap.size rfl (bv (d5.read a.at_)).toArray 25 (0, 0) ((hI.block _ (block_lt R18.out)).trans R18.out) _ secUnder rfl Z1.out ?_
                exact HK.out _ _ rfl hI (Below.refl _ _)
              refine And.intro ?_ ?_
              · intro v w' hI hd K hK
                simp only [allOf, word, List.getD_cons_zero, List.getD_cons_succ, isVal, and_true, true_and] at hd
                try simp only [hd] at hK
                have HK := Lib.hid hK
                clear hK
                go_simp
                exact HK.out _ _ rfl hI (Below.refl _ _)
              refine And.intro ?_ ?_
              · intro v w' hI hd K hK
                simp only [allOf, word, List.getD_cons_zero, List.getD_cons_succ, isVal, and_true, true_and] at hd
                try simp only [hd] at hK
                have HK := Lib.hid hK
                clear hK
                go_simp
                exact HK.out _ _ rfl hI (Below.refl _ _)
              refine And.intro ?_ ?_
              · intro v w' hI hd K hK
                simp only [allOf, word, List.getD_cons_zero, List.getD_cons_succ, isVal, and_true, true_and] at hd
                try simp only [hd] at hK
                have HK := Lib.hid hK
                clear hK
                go_simp
                exact HK.out _ _ rfl hI (Below.refl _ _)
              refine And.intro ?_ ?_
              · intro v w' hI hd K hK
                simp only [allOf, word, List.getD_cons_zero, List.getD_cons_succ, isVal, and_true, true_and] at hd
                try simp only [hd] at hK
                have HK := Lib.hid hK
                clear hK
                go_simp
                exact HK.out _ _ rfl hI (Below.refl _ _)
              refine And.intro ?_ ?_
              · intro v w' hI hd K hK
                simp only [allOf, word, List.getD_cons_zero, List.getD_cons_succ, isVal, and_true, true_and] at hd
                try simp only [hd] at hK
                have HK := Lib.hid hK
                clear hK
                go_simp
                exact HK.out _ _ rfl hI (Below.refl _ _)
              refine And.intro ?_ ?_
              · intro v w' hI hd K hK
                simp only [allOf, word, List.getD_cons_zero, List.getD_cons_succ, isVal, and_true, true_and] at hd
                try simp only [hd] at hK
                have HK := Lib.hid hK
                clear hK
                go_simp
                exact HK.out _ _ rfl hI (Below.refl _ _)
              refine And.intro ?_ ?_
              · intro v w' hI hd K hK
                simp only [allOf, word, List.getD_cons_zero, List.getD_cons_succ, isVal, and_true, true_and] at hd
                try simp only [hd] at hK
                have HK := Lib.hid hK
                clear hK
                go_simp
                exact HK.out _ _ rfl hI (Below.refl _ _)
              refine And.intro ?_ ?_
              · intro v w' hI hd K hK
                simp only [allOf, word, List.getD_cons_zero, List.getD_cons_succ, isVal, and_true, true_and] at hd
                try simp only [hd] at hK
                have HK := Lib.hid hK
                clear hK
                go_simp
                exact HK.out _ _ rfl hI (Below.refl _ _)
              refine And.intro ?_ ?_
              · intro v w' hI hd K hK
                simp only [allOf, word, List.getD_cons_zero, List.getD_cons_succ, isVal, and_true, true_and] at hd
                try simp only [hd] at hK
                have HK := Lib.hid hK
                clear hK
                go_simp
                exact HK.out _ _ rfl hI (Below.refl _ _)
              refine And.intro ?_ ?_
              · intro v w' hI hd K hK
                simp only [allOf, word, List.getD_cons_zero, List.getD_cons_succ, isVal, and_true, true_and] at hd
                try simp only [hd] at hK
                have HK := Lib.hid hK
                clear hK
                go_simp
                refine (down_any (R9.out.r.ld.disk.below hI)).mono ?_
                rintro e w5 ⟨rfl, rfl⟩
                exact HK.out _ _ rfl hI (Below.refl _ _)
              refine And.intro ?_ ?_
              · intro v w' hI hd K hK
                simp only [allOf, word, List.getD_cons_zero, List.getD_cons_succ, isVal, and_true, true_and] at hd
                try simp only [hd] at hK
                have HK := Lib.hid hK
                clear hK
                go_simp
                exact HK.out _ _ rfl hI (Below.refl _ _)
              refine And.intro ?_ ?_
              · intro v w' hI hd K hK
                simp only [allOf, word, List.getD_cons_zero, List.getD_cons_succ, isVal, and_true, true_and] at hd
                simp only [hd] at hK
                have cc : w'.cell? ⟨wb, 4, none⟩ = some (.bool d5.down) := cell_of_block ((hI.block _ (block_lt HW9.out)).trans HW9.out) 4
                have HK := Lib.hid hK
                clear hK
                go_simp
                exact HK.out _ _ rfl hI (Below.refl _ _)
              refine And.intro ?_ ?_
              · intro v w' hI hd K hK
                simp only [allOf, word, List.getD_cons_zero, List.getD_cons_succ, isVal, and_true, true_and] at hd
                try simp only [hd] at hK
                have HK := Lib.hid hK
                clear hK
                go_simp
                exact HK.out _ _ rfl hI (Below.refl _ _)
              refine And.intro ?_ ?_
              · intro v w' hI hd K hK
                simp only [allOf, word, List.getD_cons_zero, List.getD_cons_succ, isVal, and_true, true_and] at hd
                try simp only [hd] at hK
                have HK := Lib.hid hK
                clear hK
                go_simp
                exact HK.out _ _ rfl hI (Below.refl _ _)
              refine And.intro ?_ ?_
              · intro v w' hI hd K hK
                simp only [allOf, word, List.getD_cons_zero, List.getD_cons_succ, isVal, and_true, true_and] at hd
                try simp only [hd] at hK
                have HK := Lib.hid hK
                clear hK
                go_simp
                exact HK.out _ _ rfl hI (Below.refl _ _)
              refine And.intro ?_ ?_
              · intro v w' hI hd K hK
                simp only [allOf, word, List.getD_cons_zero, List.getD_cons_succ, isVal, and_true, true_and] at hd
                try simp only [hd] at hK
                have HK := Lib.hid hK
                clear hK
                go_simp
                exact HK.out _ _ rfl hI (Below.refl _ _)
              refine And.intro ?_ ?_
              · intro v w' hI hd K hK
                simp only [allOf, word, List.getD_cons_zero, List.getD_cons_succ, isVal, and_true, true_and] at hd
                try simp only [hd] at hK
                have HK := Lib.hid hK
                clear hK
                go_simp
                refine (pending_any (R9.out.r.ld.disk.below hI)).mono ?_
                rintro e w5 ⟨A10, c10, rfl, ho, hb⟩
                exact HK.out _ _ ⟨A10, c10, rfl, Fg.Src.of_own ho⟩ (hI.trans (hb.mono hI.size)) hb
              refine And.intro ?_ ?_
              · intro v w' hI hd K hK
                simp only [allOf, word, List.getD_cons_zero, List.getD_cons_succ, isVal, and_true, true_and] at hd
                try simp only [hd] at hK
                have HK := Lib.hid hK
                clear hK
                go_simp
                exact HK.out _ _ rfl hI (Below.refl _ _)
              refine And.intro ?_ ?_
              · intro v w' hI hd K hK
                simp only [allOf, word, List.getD_cons_zero, List.getD_cons_succ, isVal, and_true, true_and] at hd
                simp only [hd] at hK
                have cc : w'.cell? ⟨wb, 1, none⟩ = some (.slice A2 d5.pd.length c2) := cell_of_block ((hI.block _ (block_lt HW9.out)).trans HW9.out) 1
                have HK := Lib.hid hK
                clear hK
                go_simp
                exact HK.out _ _ rfl hI (Below.refl _ _)
              refine And.intro ?_ ?_
              · intro v w' hI hd K hK
                simp only [allOf, word, List.getD_cons_zero, List.getD_cons_succ, isVal, and_true, true_and] at hd
                obtain ⟨gg, ⟨A10, c10, h22, s22⟩, h24⟩ := hd
                simp only [gg, h22, h24] at hK
                have HK := Lib.hid hK
                clear hK
                go_simp
                refine (same_any d5.pd A10 A2 c10 c2 _ HOK.out s22 (ROW.out.below hI)).mono ?_
                rintro e w5 ⟨rfl, q, rfl⟩
                exact HK.out _ _ rfl (below_drN hI q) (below_drN (Below.refl _ _) q)
              refine And.intro ?_ ?_
              · intro v w' hI hd K hK
                simp only [allOf, word, List.getD_cons_zero, List.getD_cons_succ, isVal, and_true, true_and] at hd
                try simp only [hd] at hK
                have HK := Lib.hid hK
                clear hK
                go_simp
                exact HK.out _ _ rfl hI (Below.refl _ _)
              refine And.intro ?_ ?_
              · intro v w' hI hd K hK
                simp only [allOf, word, List.getD_cons_zero, List.getD_cons_succ, isVal, and_true, true_and] at hd
                try simp only [hd] at hK
                have HK := Lib.hid hK
                clear hK
                go_simp
                exact HK.out _ _ rfl hI (Below.refl _ _)
              exact trivial
            intro v w11 hI hd
            simp only [allOf, word, List.getD_cons_zero, List.getD_cons_succ, isVal, and_true, true_and] at hd
            obtain ⟨h0, h1, h2, h3, h4, h5, h6, h7, h8, h9, h10, h11, h12, h13, h14, h15, h16, h17, h18, h19, h20, h21, ⟨A10, c10, h22, -⟩, h23, h24, h25, h26, h27⟩ := hd
            simp only [h0, h1, h2, h3, h4, h5, h6, h7, h8, h9, h10, h11, h12, h13, h14, h15, h16, h17, h18, h19, h20, h21, h22, h23, h24, h25, h26, h27]
            clear h0 h1 h2 h3 h4 h5 h6 h7 h8 h9 h10 h11 h12 h13 h14 h15 h16 h17 h18 h19 h20 h21 h22 h23 h24 h25 h26 h27
            go_wp2_with fail
            go_roundg (gk - 1)
            case measure => omega
            case rel => exact ⟨j + 1, by omega, by go_num, d5, F5, C5, R9.out.r.later hI, HP5.out⟩
        · obtain rfl : j = l.length := by omega
          obtain ⟨A1, c1, A2, c2, lr, hC5, rv, -⟩ := RR.out.ref
          injection hC5 with hC5
          have HW9 : Hid (wr.heap[wb]? = some (.cells (rcells A1 c1 A2 c2 lr d) 41)) := Lib.hid (hC5 ▸ RR.out.hwb)
          have ROW := Lib.hid rv.rows.1
          have hfew := rv.few.1
          have x0 : wr.cell? ⟨wb, 0, none⟩ = some (.slice A1 d.st.length c1) := cell_of_block HW9.out 0
          have DK : Hid (IsDisk wr.drew g d F) := Lib.hid (RR.out.ld.disk.same (fun _ _ => rfl))
          clear rv hC5
          go_upto_region 30 with fail
          go_region_held3 (fun w' => w'.cell? ⟨wb, 0, none⟩ = some (.slice A1 d.st.length c1)) (first | exact x0 | go_keep)
            ((go_at_call 13; refine (len_any DK.out).mono ?_; rintro e w' ⟨rfl, rfl⟩))
          have L0 : Hid (LD W wr.drew g d F) := Lib.hid (RR.out.ld.later (below_dr (Below.refl _ _)))
          have HW0 : Hid (wr.drew.heap[wb]? = some (.cells (rcells A1 c1 A2 c2 lr d) 41)) := HW9
          have ROW0 : Hid (RowsAt wr.drew A1 64 (sv d.st)) := Lib.hid (ROW.out.below (below_dr (Below.refl _ _)))
          generalize wr.drew = wz at *
          clear RR HW9 ROW DK x0
          go_wp2_with fail
          go_loopg [145] d.st.length (fun k v wx => ∃ i : Nat, i + k = d.st.length ∧ v = .int .i64 i ∧ Below wz.heap.size wz wx)
          case atStart => exact ⟨0, Nat.zero_add _, rfl, Below.refl _ _⟩
          case round =>
            obtain ⟨i, hi, rfl, hbx⟩ := hrel
            have L1 := Lib.hid (L0.out.later hbx)
            have BX := Lib.hid hbx
            have hwx := hbx.size
            clear hbx
            by_cases hil : i < d.st.length
            · have hth : d.there i = true := by simp [Dk.there, hil]
              have HE : Hid (d.sErr i = 0) := Lib.hid (if_pos hth)
              obtain ⟨ps, rfl, hpl, hps⟩ := ROW0.out i (bv (d.stable i)) (by rw [Dk.stable, if_pos hth]; simp [sv, hil])
              have HPL0 := Lib.hid hpl
              have HPS0 := Lib.hid hps
              have L64 : Hid ((d.stable i).length = 64) := Lib.hid (Dk.stable_64 L0.out.disk.ok i)
              have Z1 := Lib.hid (sec_toArray L64.out)
              have Z2 : Hid ((bv noSec).toArray.size = (bv (d.stable i)).toArray.size) := Lib.hid (by simp [bv, noSec, L64.out])
              have Z3 := Lib.hid (sec_one (d.stable i))
              have Z4 : Hid ((Try.prog.info? 25).map (·.size) = some (bv (d.stable i)).length) := Lib.hid (by rw [secSize, bv_length, L64.out])
              clear hth hpl hps
              go_wp2_with fail
              refine (stable_any L1.out.disk i).mono ?_
              rintro e w4 ⟨rfl, hb4⟩
              rw [HE.out]
              have B4 : Hid (Below wz.heap.size wz w4) := Lib.hid (BX.out.trans (hb4.mono BX.out.size))
              clear hb4
              have R04 := Lib.hid (heap_alloc_at w4 (.cells (bv noSec).toArray 25))
              have T6 := Lib.hid (setRow_at (bv (d.stable i)).toArray R04.out)
              have R24 : Hid (Below w4.heap.size w4 ((w4.alloc (.cells (bv noSec).toArray 25)).setRow w4.heap.size (bv (d.stable i)).toArray)) := Lib.hid (below_setRow ((Below.refl _ _).alloc (Nat.le_refl _) _) (Nat.le_refl _) _)
              go_upto_region 36 with (first
                | refine wpList_alloc_as rfl 25 rfl (bv noSec).toArray secZero ?_
                | refine wpList_store_block rfl 25 (.tmp 17) (.tmp 152) rfl w4.heap.size (bv (d.stable i)).toArray rfl rfl (bv noSec).toArray 25 R04.out Z1.out Z2.out Z3.out ?_)
              generalize (w4.alloc (.cells (bv noSec).toArray 25)).setRow w4.heap.size (bv (d.stable i)).toArray = w6 at *
              have B6 : Hid (Below wz.heap.size wz w6) := Lib.hid (B4.out.trans (R24.out.mono B4.out.size))
              have HW6 := Lib.hid ((B6.out.block _ (block_lt HW0.out)).trans HW0.out)
              have HPL : Hid (ps < w6.heap.size) := Lib.hid (Nat.lt_of_lt_of_le HPL0.out B6.out.size)
              have HPS : Hid (w6.rangeAt ps (i * 64) (bv (d.stable i))) := Lib.hid (fun q v hv => (B6.out.cell (p := ⟨ps, i * 64 + q, none⟩) HPL0.out).trans (HPS0.out q v hv))
              have q1 : ∀ w : World, (Op.equalIn 10000 25 (.agg (bv (d.stable i)).toArray) (.agg (bv (d.stable i)).toArray)).run Try.prog w = .ok true w := fun w => by rw [sec_eq _ _ L64.out L64.out]; simp
              have hil' : (i : Int) < (d.st.length : Int) := by omega
              have hi0 : (0 : Int) ≤ (i : Int) := by omega
              apply wp_region_words (fun w w' => w' = w) (fun w' => Below w6.heap.size w6 w')
                [isVal _, isVal _, isVal _, isVal (.agg (bv (d.stable i)).toArray), isVal _, isVal (.slice (some ⟨ps, 0, none⟩) d.st.length c1), isVal _, isVal _, isVal (.agg (bv (d.stable i)).toArray), isVal _, isVal _]
                [[], [0], [1], [2], [2], [2, 4], [2], [2, 5, 6], [2, 7], [2, 3, 8], [2, 9]] [0, 1, 2, 3, 4, 5, 6, 7, 8, 9, 10] (by kernel_rfl) (by kernel_rfl) ?hFb ?standb ?hIb ?stepsb ?finb
              case hFb => intro v; simp [fillFrom, Act.put]; rfl
              case standb =>
                repeat' (first | exact trivial | (refine And.intro ?_ ?_))
                all_goals first | (intro u w w' h _ _; exact h)
              case hIb => exact below_dr (Below.refl _ _)
              case stepsb =>
                refine And.intro ?_ ?_
                · intro v w' hI hd K hK
                  simp only [allOf, word, List.getD_cons_zero, List.getD_cons_succ, isVal, and_true, true_and] at hd
                  have HK := Lib.hid hK
                  clear hK
                  go_simp
                  exact HK.out _ _ rfl hI (rfl)
                refine And.intro ?_ ?_
                · intro v w' hI hd K hK
                  simp only [allOf, word, List.getD_cons_zero, List.getD_cons_succ, isVal, and_true, true_and] at hd
                  try simp only [hd] at hK
                  have HK := Lib.hid hK
                  clear hK
                  go_simp
                  exact HK.out _ _ rfl hI (rfl)
                refine And.intro ?_ ?_
                · intro v w' hI hd K hK
                  simp only [allOf, word, List.getD_cons_zero, List.getD_cons_succ, isVal, and_true, true_and] at hd
                  try simp only [hd] at hK
                  have HK := Lib.hid hK
                  clear hK
                  go_simp
                  exact HK.out _ _ rfl hI (rfl)
                refine And.intro ?_ ?_
                · intro v w' hI hd K hK
                  simp only [allOf, word, List.getD_cons_zero, List.getD_cons_succ, isVal, and_true, true_and] at hd
                  have HK := Lib.hid hK
                  clear hK
                  rw [if_pos (by simp [Region.wanted, yielded, hd])]
                  refine wp_load_block 25 (.tmp 17) rfl w4.heap.size rfl (bv (d.stable i)).toArray 25 (0, 0) ((hI.block _ (block_lt T6.out)).trans T6.out) _ secUnder rfl Z1.out ?_
                  exact HK.out _ _ rfl hI rfl
                refine And.intro ?_ ?_
                · intro v w' hI hd K hK
                  simp only [allOf, word, List.getD_cons_zero, List.getD_cons_succ, isVal, and_true, true_and] at hd
                  try simp only [hd] at hK
                  have HK := Lib.hid hK
                  clear hK
                  go_simp
                  exact HK.out _ _ rfl hI (rfl)
                refine And.intro ?_ ?_
                · intro v w' hI hd K hK
                  simp only [allOf, word, List.getD_cons_zero, List.getD_cons_succ, isVal, and_true, true_and] at hd
                  simp only [hd] at hK
                  have cc : w'.cell? ⟨wb, 0, none⟩ = some (.slice (some ⟨ps, 0, none⟩) d.st.length c1) := cell_of_block ((hI.block _ (block_lt HW6.out)).trans HW6.out) 0
                  have HK := Lib.hid hK
                  clear hK
                  go_simp
                  exact HK.out _ _ rfl hI (rfl)
                refine And.intro ?_ ?_
                · intro v w' hI hd K hK
                  simp only [allOf, word, List.getD_cons_zero, List.getD_cons_succ, isVal, and_true, true_and] at hd
                  try simp only [hd] at hK
                  have HK := Lib.hid hK
                  clear hK
                  go_simp
                  exact HK.out _ _ rfl hI (rfl)
                refine And.intro ?_ ?_
                · intro v w' hI hd K hK
                  simp only [allOf, word, List.getD_cons_zero, List.getD_cons_succ, isVal, and_true, true_and] at hd
                  try simp only [hd] at hK
                  have HK := Lib.hid hK
                  clear hK
                  go_simp
                  exact HK.out _ _ rfl hI (rfl)
                refine And.intro ?_ ?_
                · intro v w' hI hd K hK
                  simp only [allOf, word, List.getD_cons_zero, List.getD_cons_succ, isVal, and_true, true_and] at hd
                  obtain ⟨hd2, hd7⟩ := hd
                  have HK := Lib.hid hK
                  clear hK
                  rw [if_pos (by simp [Region.wanted, yielded, hd2])]
                  refine wp_load_mid 25 (.tmp 161) rfl ps (i * 64) hd7 (bv (d.stable i)) _ (fun q v hv => (hI.cell (p := ⟨ps, i * 64 + q, none⟩) HPL.out).trans (HPS.out q v hv)) secUnder rfl Z4.out ?_
                  exact HK.out _ _ rfl hI rfl
                refine And.intro ?_ ?_
                · intro v w' hI hd K hK
                  simp only [allOf, word, List.getD_cons_zero, List.getD_cons_succ, isVal, and_true, true_and] at hd
                  try simp only [hd] at hK
                  have HK := Lib.hid hK
                  clear hK
                  go_simp
                  exact HK.out _ _ rfl hI (rfl)
                refine And.intro ?_ ?_
                · intro v w' hI hd K hK
                  simp only [allOf, word, List.getD_cons_zero, List.getD_cons_succ, isVal, and_true, true_and] at hd
                  try simp only [hd] at hK
                  have HK := Lib.hid hK
                  clear hK
                  go_simp
                  exact HK.out _ _ rfl hI (rfl)
                exact trivial
              intro v w7 hI hd
              simp only [allOf, word, List.getD_cons_zero, List.getD_cons_succ, isVal, and_true, true_and] at hd
              obtain ⟨h0, h1, h2, h3, h4, h5, h6, h7, h8, h9, h10⟩ := hd
              simp only [h0, h1, h2, h3, h4, h5, h6, h7, h8, h9, h10]
              clear h0 h1 h2 h3 h4 h5 h6 h7 h8 h9 h10
              go_wp2_with fail
              go_roundg (gk - 1)
              case measure => omega
              case rel => exact ⟨i + 1, by omega, by go_num, B6.out.trans (hI.mono B6.out.size)⟩
            · obtain rfl : i = d.st.length := by omega
              have hth : ¬ d.there (d.st.length : Nat) = true := by simp [Dk.there]
              have HE : Hid (d.stable (d.st.length : Nat) = noSec ∧ d.sErr (d.st.length : Nat) = 71) := Lib.hid ⟨if_neg hth, if_neg hth⟩
              have Z1 := Lib.hid (sec_toArray Dk.noSec_len)
              have Z3 := Lib.hid (sec_one noSec)
              clear hth
              go_wp2_with fail
              refine (len_any L1.out.disk).mono ?_
              rintro e w' ⟨rfl, rfl⟩
              go_wp2_with fail
              refine (stable_any L1.out.disk (d.st.length : Nat)).mono ?_
              rintro e w4 ⟨rfl, hb4⟩
              rw [HE.out.1, HE.out.2]
              have L4 := Lib.hid (L1.out.later hb4)
              clear hb4
              have R04 := Lib.hid (heap_alloc_at w4 (.cells (bv noSec).toArray 25))
              have R24 : Hid (Below w4.heap.size w4 ((w4.alloc (.cells (bv noSec).toArray 25)).setRow w4.heap.size (bv noSec).toArray)) := Lib.hid (below_setRow ((Below.refl _ _).alloc (Nat.le_refl _) _) (Nat.le_refl _) _)
              go_wp2_with (first
                | refine wpList_alloc_as rfl 25 rfl (bv noSec).toArray secZero ?_
                | refine wpList_store_block rfl 25 (.tmp 19) (.tmp 171) rfl w4.heap.size (bv noSec).toArray rfl rfl (bv noSec).toArray 25 R04.out Z1.out rfl Z3.out ?_)
              go_ret
              exact ⟨rfl, (L4.out.later R24.out).below⟩
end Go.Proofs.Ytndcgofjhlndgaa.Disk
