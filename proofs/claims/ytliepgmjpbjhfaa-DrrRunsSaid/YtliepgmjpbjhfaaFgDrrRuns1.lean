/- The walk of DrrRuns: whatever is done with a scheduler. Conditions: none beyond each lemma's own hypotheses. Printed by drrruns.py. -/
import Derived.Test.YtliepgmjpbjhfaaFgDrrRunsMem
set_option linter.unusedVariables false
set_option linter.unusedSimpArgs false
namespace Go.Proofs.Ytliepgmjpbjhfaa.Drr
open Go.RowKit Go.Proofs.Ytliepgmjpbjhfaa.Fg Go.Shelf Go.Maps

theorem frontV_form (s : Sc) : ∃ a b c, s.frontV = .tuple #[.int .i64 a, .int .u64 b, .bool c] := by
  unfold Sc.frontV
  cases s.head with
  | none => exact ⟨_, _, _, rfl⟩
  | some m => exact ⟨_, _, _, rfl⟩
theorem actSize : (Try.prog.info? 50).map (·.size) = some 3 := by kernel_rfl
theorem below_drew (w : World) : Below w.heap.size w w.drew := below_dr (Below.refl _ _)
set_option maxRecDepth 100000 in
set_option maxHeartbeats 8000000 in
theorem runs_law (A : Option Addr) (c : Nat) (l : List Act2) (W : World) (hlc : l.length ≤ c) (hcm : c ≤ maxLen) (hs : Acts2 W A l) :
    Calls Try.prog 7 #[.slice A l.length c] W fun e w' => e = .returned (.bool true) ∧ Below W.heap.size W w' := by
  have HS := Lib.hid hs
  have hm := hcm
  unfold maxLen at hm
  clear hs hcm
  go_enter Try.func7, Try.ntmps7
  go_wp2_with fail
  refine (alive_any W).mono ?_
  rintro e w0 ⟨rfl, hb0⟩
  have HB0 := Lib.hid hb0
  clear hb0
  by_cases h0 : (200 : Int) < l.length
  · go_wp2_with fail
    go_ret
    exact ⟨rfl, HB0.out⟩
  have c0 : decide ((200 : Int) < l.length) = false := decide_eq_false h0
  go_wp2_with fail
  refine (new_any w0).mono ?_
  rintro e w1 ⟨sb, F, rfl, hd, hb, hF⟩
  obtain ⟨w2, hw2, hb2, h2, hz2⟩ := one_box w1 #[.slice none 0 0, .slice none 0 0] 48
  have HW2 := Lib.hid hw2
  have R2 : Hid (RX W sb w1.heap.size w2) := Lib.hid ⟨Sc.new, F, none, 0, none, 0, ⟨DS.below ⟨hd, HB0.out.trans (hb.mono HB0.out.size), fun k hk => Nat.le_trans HB0.out.size (hF k hk)⟩ hb2, h2, ⟨World.ownsRow_nil _ _ _ _, World.ownsRow_nil _ _ _ _⟩, fun hf => Nat.lt_irrefl _ (hd.lt _ hf), Nat.le_trans HB0.out.size hb.size, fun b hb => by rcases hb with hb | hb <;> cases hb⟩⟩
  clear hd hb hF hw2 hb2 h2 hz2 c0 h0
  go_upto_region 7 with fail
  rw [HW2.out]
  generalize w1.heap.size = b4 at *
  clear HW2
  go_wp2_with fail
  go_loopg [27] l.length (fun k i wr => ∃ j : Nat, j + k = l.length ∧ i = .int .i64 j ∧ RX W sb b4 wr)
  case atStart => exact ⟨0, Nat.zero_add _, rfl, R2.out⟩
  case round =>
    obtain ⟨j, hj, rfl, s, F3, A1, c1, A2, c2, hri⟩ := hrel
    have R3 := Lib.hid hri
    clear hri R2
    by_cases hlt : j < l.length
    · obtain ⟨⟨ki, x, n⟩, ha⟩ : ∃ a, l[j]? = some a := ⟨_, List.getElem?_eq_getElem hlt⟩
      obtain ⟨b, o, rfl, hrg0, hbl, hwx, hn0, hn1⟩ := HS.out.each j _ ha
      simp only at hrg0 hwx hn0 hn1
      have hrg : wr.rangeAt b (o + j * 3) [.int .i64 ki, .int .i64 x, .int .u64 n] := fun i v hv => (R3.out.ds.2.1.cell (p := ⟨b, o + j * 3 + i, none⟩) hbl).trans (hrg0 i v hv)
      have HRG := Lib.hid hrg
      have Y1 : Hid ((Try.prog.info? 50).map (·.size) = some ([.int .i64 ki, .int .i64 x, .int .u64 n] : List Value).length) := Lib.hid actSize
      obtain ⟨w4, hw4, hb4, h4, hz4⟩ := one_box wr #[.int .i64 ki, .int .i64 x, .int .u64 n] 50
      have HW4 := Lib.hid hw4
      have R4 := Lib.hid (R3.out.below hb4)
      have RA4 : Hid (RA w4 b4 wr.heap.size ki x n F3) := Lib.hid ⟨h4, fun hf => Nat.lt_irrefl _ (R3.out.ds.1.lt _ hf), fun e => by have := block_lt R3.out.box; omega⟩
      have OK := Lib.hid R4.out.ds.1.ok
      have jlt : (j : Int) < l.length := by omega
      clear ha hrg hrg0 hbl hw4 hb4 h4 hz4 R3 hlt
      go_upto_region 10 with (refine wpList_load_mid rfl 50 (.tmp 29) rfl b (o + j * 3) rfl [.int .i64 ki, .int .i64 x, .int .u64 n] _ HRG.out Try.underlying50 rfl Y1.out ?_)
      rw [HW4.out]
      generalize wr.heap.size = ab at *
      clear HW4 HRG Y1
      have m0 : w4.cell? ⟨ab, 0, none⟩ = some (.int .i64 ki) := cell_of_block RA4.out.ac 0
      have m1 : w4.cell? ⟨ab, 1, none⟩ = some (.int .i64 x) := cell_of_block RA4.out.ac 1
      have m2 : w4.cell? ⟨ab, 2, none⟩ = some (.int .u64 n) := cell_of_block RA4.out.ac 2
      go_upto_block 2 with fail
      go_cut [7, 8, 9, 10] (fun p q r t wx => ∃ (E : Int) (B : Bool), p = .int .i64 E ∧ q = .int .i64 E ∧ r = .bool B ∧ t = .bool B ∧ RX W sb b4 wx)
      case first =>
        by_cases h0 : ki = 0
        · subst h0
          have SC := Lib.hid (set_any R4.out.ds.1 x n hwx hn0)
          clear m0 m1 m2
          have m0 : w4.cell? ⟨ab, 0, none⟩ = some (.int .i64 0) := cell_of_block RA4.out.ac 0
          have m1 : w4.cell? ⟨ab, 1, none⟩ = some (.int .i64 x) := cell_of_block RA4.out.ac 1
          have m2 : w4.cell? ⟨ab, 2, none⟩ = some (.int .u64 n) := cell_of_block RA4.out.ac 2
          go_wp2_with fail
          refine SC.out.mono ?_
          rintro e w5 ⟨rfl, ht⟩
          obtain ⟨F5, h5, hk5, hf5⟩ := R4.out.turn ht
          have R5 := Lib.hid h5
          have RA5 := RA4.out.turn hk5 hf5
          have RC := Lib.hid (refset_any R5.out.isR OK.out x n hn0)
          have p0 : w5.cell? ⟨b4, 0, none⟩ = some (.slice A1 s.ms.length c1) := cell_of_block h5.box 0
          have p1 : w5.cell? ⟨b4, 1, none⟩ = some (.slice A2 s.act.length c2) := cell_of_block h5.box 1
          have g1 : w5.cell? ⟨ab, 1, none⟩ = some (.int .i64 x) := cell_of_block RA5.ac 1
          have g2 : w5.cell? ⟨ab, 2, none⟩ = some (.int .u64 n) := cell_of_block RA5.ac 2
          clear ht h5 hk5 hf5 SC RA5 m0 m1 m2
          go_wp2_with fail
          refine RC.out.mono ?_
          rintro e w6 ⟨v6, rfl, ⟨B1, e1, B2, e2, rfl, hr6, hg6⟩, hb6⟩
          have R6 := Lib.hid (R5.out.laid hb6 hr6 hg6)
          have h6 := (hb6.block _ (block_lt R5.out.box)).trans R5.out.box
          have r0 : w6.cell? ⟨b4, 0, none⟩ = some (.slice A1 s.ms.length c1) := cell_of_block h6 0
          have r1 : w6.cell? ⟨b4, 1, none⟩ = some (.slice A2 s.act.length c2) := cell_of_block h6 1
          have f0 := free_of_block h6 0
          have f1 := free_of_block h6 1
          clear hr6 hg6 hb6 RC p0 p1 g1 g2 h6
          go_wp2_with fail
          go_meet
          exact ⟨s.setE x n, false, rfl, rfl, rfl, rfl, _, F5, _, _, _, _, R6.out⟩
        · have k0 : (ki == 0) = false := beq_eq_false_iff_ne.2 h0
          by_cases h1 : ki = 1
          · subst h1
            clear h0 k0
            have SC := Lib.hid (remove_any R4.out.ds.1 x hwx)
            clear m0 m1 m2
            have m0 : w4.cell? ⟨ab, 0, none⟩ = some (.int .i64 1) := cell_of_block RA4.out.ac 0
            have m1 : w4.cell? ⟨ab, 1, none⟩ = some (.int .i64 x) := cell_of_block RA4.out.ac 1
            have m2 : w4.cell? ⟨ab, 2, none⟩ = some (.int .u64 n) := cell_of_block RA4.out.ac 2
            go_wp2_with fail
            refine SC.out.mono ?_
            rintro e w5 ⟨rfl, ht⟩
            obtain ⟨F5, h5, hk5, hf5⟩ := R4.out.turn ht
            have R5 := Lib.hid h5
            have RA5 := RA4.out.turn hk5 hf5
            have RC := Lib.hid (refremove_any R5.out.isR OK.out x)
            have p0 : w5.cell? ⟨b4, 0, none⟩ = some (.slice A1 s.ms.length c1) := cell_of_block h5.box 0
            have p1 : w5.cell? ⟨b4, 1, none⟩ = some (.slice A2 s.act.length c2) := cell_of_block h5.box 1
            have g1 : w5.cell? ⟨ab, 1, none⟩ = some (.int .i64 x) := cell_of_block RA5.ac 1
            have g2 : w5.cell? ⟨ab, 2, none⟩ = some (.int .u64 n) := cell_of_block RA5.ac 2
            clear ht h5 hk5 hf5 SC RA5 m0 m1 m2
            go_wp2_with fail
            refine RC.out.mono ?_
            rintro e w6 ⟨v6, rfl, ⟨B1, e1, B2, e2, rfl, hr6, hg6⟩, hb6⟩
            have R6 := Lib.hid (R5.out.laid hb6 hr6 hg6)
            have h6 := (hb6.block _ (block_lt R5.out.box)).trans R5.out.box
            have r0 : w6.cell? ⟨b4, 0, none⟩ = some (.slice A1 s.ms.length c1) := cell_of_block h6 0
            have r1 : w6.cell? ⟨b4, 1, none⟩ = some (.slice A2 s.act.length c2) := cell_of_block h6 1
            have f0 := free_of_block h6 0
            have f1 := free_of_block h6 1
            clear hr6 hg6 hb6 RC p0 p1 g1 g2 h6
            go_wp2_with fail
            go_meet
            exact ⟨0, s.removeB x, rfl, rfl, rfl, rfl, _, F5, _, _, _, _, R6.out⟩
          · have k1 : (ki == 1) = false := beq_eq_false_iff_ne.2 h1
            by_cases h2 : ki = 2
            · subst h2
              clear h0 k0
              clear h1 k1
              have SC := Lib.hid (wake_any R4.out.ds.1 x hwx)
              clear m0 m1 m2
              have m0 : w4.cell? ⟨ab, 0, none⟩ = some (.int .i64 2) := cell_of_block RA4.out.ac 0
              have m1 : w4.cell? ⟨ab, 1, none⟩ = some (.int .i64 x) := cell_of_block RA4.out.ac 1
              have m2 : w4.cell? ⟨ab, 2, none⟩ = some (.int .u64 n) := cell_of_block RA4.out.ac 2
              go_wp2_with fail
              refine SC.out.mono ?_
              rintro e w5 ⟨rfl, ht⟩
              obtain ⟨F5, h5, hk5, hf5⟩ := R4.out.turn ht
              have R5 := Lib.hid h5
              have RA5 := RA4.out.turn hk5 hf5
              have RC := Lib.hid (refwake_any R5.out.isR OK.out x)
              have p0 : w5.cell? ⟨b4, 0, none⟩ = some (.slice A1 s.ms.length c1) := cell_of_block h5.box 0
              have p1 : w5.cell? ⟨b4, 1, none⟩ = some (.slice A2 s.act.length c2) := cell_of_block h5.box 1
              have g1 : w5.cell? ⟨ab, 1, none⟩ = some (.int .i64 x) := cell_of_block RA5.ac 1
              have g2 : w5.cell? ⟨ab, 2, none⟩ = some (.int .u64 n) := cell_of_block RA5.ac 2
              clear ht h5 hk5 hf5 SC RA5 m0 m1 m2
              go_wp2_with fail
              refine RC.out.mono ?_
              rintro e w6 ⟨v6, rfl, ⟨B1, e1, B2, e2, rfl, hr6, hg6⟩, hb6⟩
              have R6 := Lib.hid (R5.out.laid hb6 hr6 hg6)
              have h6 := (hb6.block _ (block_lt R5.out.box)).trans R5.out.box
              have r0 : w6.cell? ⟨b4, 0, none⟩ = some (.slice A1 s.ms.length c1) := cell_of_block h6 0
              have r1 : w6.cell? ⟨b4, 1, none⟩ = some (.slice A2 s.act.length c2) := cell_of_block h6 1
              have f0 := free_of_block h6 0
              have f1 := free_of_block h6 1
              clear hr6 hg6 hb6 RC p0 p1 g1 g2 h6
              go_wp2_with fail
              go_meet
              exact ⟨s.wakeE x, false, rfl, rfl, rfl, rfl, _, F5, _, _, _, _, R6.out⟩
            · have k2 : (ki == 2) = false := beq_eq_false_iff_ne.2 h2
              by_cases h3 : ki = 3
              · subst h3
                clear h0 k0
                clear h1 k1
                clear h2 k2
                have SC := Lib.hid (front_any R4.out.ds.1)
                obtain ⟨fa, fb, fc, hfv⟩ := frontV_form s
                rw [hfv] at SC
                have HFV := Lib.hid hfv
                clear hfv
                go_wp2_with fail
                refine SC.out.mono ?_
                rintro e w5 ⟨rfl, ht⟩
                obtain ⟨F5, h5, hk5, hf5⟩ := R4.out.turn ht
                have R5 := Lib.hid h5
                have RC := Lib.hid (reffront_any R5.out.isR OK.out)
                have p0 : w5.cell? ⟨b4, 0, none⟩ = some (.slice A1 s.ms.length c1) := cell_of_block h5.box 0
                have p1 : w5.cell? ⟨b4, 1, none⟩ = some (.slice A2 s.act.length c2) := cell_of_block h5.box 1
                clear ht h5 hk5 hf5 SC m0 m1 m2
                go_wp2_with fail
                refine RC.out.mono ?_
                rintro e w6 ⟨v6, fa2, fb2, fc2, hfv2, rfl, ⟨B1, e1, B2, e2, rfl, hr6, hg6⟩, hb6⟩
                rw [HFV.out] at hfv2
                obtain ⟨rfl, rfl, rfl⟩ : fa = fa2 ∧ fb = fb2 ∧ fc = fc2 := by simpa using hfv2
                obtain ⟨w7, hw7, hb7, h7, hz7⟩ := one_box w6 #[.slice B1 s.front.ms.length e1, .slice B2 s.front.act.length e2] 48
                have HW7 := Lib.hid hw7
                have hb8 : Below w5.heap.size w5 w7 := hb6.trans (hb7.mono hb6.size)
                have R6 := Lib.hid (R5.out.laid hb8 ⟨own_same hr6.r1 fun k hk => hb7.block k (hr6.r1.lt k hk).2, own_same hr6.r2 fun k hk => hb7.block k (hr6.r2.lt k hk).2⟩ hg6)
                have h6 := (hb8.block _ (block_lt R5.out.box)).trans R5.out.box
                have r0 : w7.cell? ⟨b4, 0, none⟩ = some (.slice A1 s.ms.length c1) := cell_of_block h6 0
                have r1 : w7.cell? ⟨b4, 1, none⟩ = some (.slice A2 s.act.length c2) := cell_of_block h6 1
                have f0 := free_of_block h6 0
                have f1 := free_of_block h6 1
                have t0 : w7.cell? ⟨w6.heap.size, 0, none⟩ = some (.slice B1 s.front.ms.length e1) := cell_of_block h7 0
                have t1 : w7.cell? ⟨w6.heap.size, 1, none⟩ = some (.slice B2 s.front.act.length e2) := cell_of_block h7 1
                clear hr6 hg6 hb6 hb8 RC p0 p1 h6 hfv2 hw7 hb7 h7 hz7
                go_upto_region 25 with fail
                rw [HW7.out]
                clear HW7
                go_wp2_with fail
                go_meet
                exact ⟨0, false, rfl, rfl, rfl, rfl, _, F5, _, _, _, _, R6.out⟩
              · have k3 : (ki == 3) = false := beq_eq_false_iff_ne.2 h3
                by_cases h4 : ki = 4
                · subst h4
                  clear h0 k0
                  clear h1 k1
                  clear h2 k2
                  clear h3 k3
                  have SC := Lib.hid (spend_any R4.out.ds.1 n hn0)
                  clear m0 m1 m2
                  have m0 : w4.cell? ⟨ab, 0, none⟩ = some (.int .i64 4) := cell_of_block RA4.out.ac 0
                  have m1 : w4.cell? ⟨ab, 1, none⟩ = some (.int .i64 x) := cell_of_block RA4.out.ac 1
                  have m2 : w4.cell? ⟨ab, 2, none⟩ = some (.int .u64 n) := cell_of_block RA4.out.ac 2
                  go_wp2_with fail
                  refine SC.out.mono ?_
                  rintro e w5 ⟨rfl, ht⟩
                  obtain ⟨F5, h5, hk5, hf5⟩ := R4.out.turn ht
                  have R5 := Lib.hid h5
                  have RA5 := RA4.out.turn hk5 hf5
                  have RC := Lib.hid (refspend_any R5.out.isR OK.out n hn0)
                  have p0 : w5.cell? ⟨b4, 0, none⟩ = some (.slice A1 s.ms.length c1) := cell_of_block h5.box 0
                  have p1 : w5.cell? ⟨b4, 1, none⟩ = some (.slice A2 s.act.length c2) := cell_of_block h5.box 1
                  have g1 : w5.cell? ⟨ab, 1, none⟩ = some (.int .i64 x) := cell_of_block RA5.ac 1
                  have g2 : w5.cell? ⟨ab, 2, none⟩ = some (.int .u64 n) := cell_of_block RA5.ac 2
                  clear ht h5 hk5 hf5 SC RA5 m0 m1 m2
                  go_wp2_with fail
                  refine RC.out.mono ?_
                  rintro e w6 ⟨v6, rfl, ⟨B1, e1, B2, e2, rfl, hr6, hg6⟩, hb6⟩
                  have R6 := Lib.hid (R5.out.laid hb6 hr6 hg6)
                  have h6 := (hb6.block _ (block_lt R5.out.box)).trans R5.out.box
                  have r0 : w6.cell? ⟨b4, 0, none⟩ = some (.slice A1 s.ms.length c1) := cell_of_block h6 0
                  have r1 : w6.cell? ⟨b4, 1, none⟩ = some (.slice A2 s.act.length c2) := cell_of_block h6 1
                  have f0 := free_of_block h6 0
                  have f1 := free_of_block h6 1
                  clear hr6 hg6 hb6 RC p0 p1 g1 g2 h6
                  go_wp2_with fail
                  go_meet
                  exact ⟨0, s.spendB n, rfl, rfl, rfl, rfl, _, F5, _, _, _, _, R6.out⟩
                · have k4 : (ki == 4) = false := beq_eq_false_iff_ne.2 h4
                  by_cases h5 : ki = 5
                  · subst h5
                    clear h0 k0
                    clear h1 k1
                    clear h2 k2
                    clear h3 k3
                    clear h4 k4
                    have SC := Lib.hid (next_any R4.out.ds.1)
                    clear m0 m1 m2
                    have m0 : w4.cell? ⟨ab, 0, none⟩ = some (.int .i64 5) := cell_of_block RA4.out.ac 0
                    have m1 : w4.cell? ⟨ab, 1, none⟩ = some (.int .i64 x) := cell_of_block RA4.out.ac 1
                    have m2 : w4.cell? ⟨ab, 2, none⟩ = some (.int .u64 n) := cell_of_block RA4.out.ac 2
                    go_wp2_with fail
                    refine SC.out.mono ?_
                    rintro e w5 ⟨rfl, ht⟩
                    obtain ⟨F5, h5, hk5, hf5⟩ := R4.out.turn ht
                    have R5 := Lib.hid h5
                    have RA5 := RA4.out.turn hk5 hf5
                    have RC := Lib.hid (refleaveTT_any R5.out.isR OK.out)
                    have p0 : w5.cell? ⟨b4, 0, none⟩ = some (.slice A1 s.ms.length c1) := cell_of_block h5.box 0
                    have p1 : w5.cell? ⟨b4, 1, none⟩ = some (.slice A2 s.act.length c2) := cell_of_block h5.box 1
                    have g1 : w5.cell? ⟨ab, 1, none⟩ = some (.int .i64 x) := cell_of_block RA5.ac 1
                    have g2 : w5.cell? ⟨ab, 2, none⟩ = some (.int .u64 n) := cell_of_block RA5.ac 2
                    clear ht h5 hk5 hf5 SC RA5 m0 m1 m2
                    go_wp2_with fail
                    refine RC.out.mono ?_
                    rintro e w6 ⟨v6, rfl, ⟨B1, e1, B2, e2, rfl, hr6, hg6⟩, hb6⟩
                    have R6 := Lib.hid (R5.out.laid hb6 hr6 hg6)
                    have h6 := (hb6.block _ (block_lt R5.out.box)).trans R5.out.box
                    have r0 : w6.cell? ⟨b4, 0, none⟩ = some (.slice A1 s.ms.length c1) := cell_of_block h6 0
                    have r1 : w6.cell? ⟨b4, 1, none⟩ = some (.slice A2 s.act.length c2) := cell_of_block h6 1
                    have f0 := free_of_block h6 0
                    have f1 := free_of_block h6 1
                    clear hr6 hg6 hb6 RC p0 p1 g1 g2 h6
                    go_wp2_with fail
                    go_meet
                    exact ⟨0, s.leaveB, rfl, rfl, rfl, rfl, _, F5, _, _, _, _, R6.out⟩
                  · have k5 : (ki == 5) = false := beq_eq_false_iff_ne.2 h5
                    by_cases h6 : ki = 6
                    · subst h6
                      clear h0 k0
                      clear h1 k1
                      clear h2 k2
                      clear h3 k3
                      clear h4 k4
                      clear h5 k5
                      have SC := Lib.hid (block_any R4.out.ds.1)
                      clear m0 m1 m2
                      have m0 : w4.cell? ⟨ab, 0, none⟩ = some (.int .i64 6) := cell_of_block RA4.out.ac 0
                      have m1 : w4.cell? ⟨ab, 1, none⟩ = some (.int .i64 x) := cell_of_block RA4.out.ac 1
                      have m2 : w4.cell? ⟨ab, 2, none⟩ = some (.int .u64 n) := cell_of_block RA4.out.ac 2
                      go_wp2_with fail
                      refine SC.out.mono ?_
                      rintro e w5 ⟨rfl, ht⟩
                      obtain ⟨F5, h5, hk5, hf5⟩ := R4.out.turn ht
                      have R5 := Lib.hid h5
                      have RA5 := RA4.out.turn hk5 hf5
                      have RC := Lib.hid (refleaveFT_any R5.out.isR OK.out)
                      have p0 : w5.cell? ⟨b4, 0, none⟩ = some (.slice A1 s.ms.length c1) := cell_of_block h5.box 0
                      have p1 : w5.cell? ⟨b4, 1, none⟩ = some (.slice A2 s.act.length c2) := cell_of_block h5.box 1
                      have g1 : w5.cell? ⟨ab, 1, none⟩ = some (.int .i64 x) := cell_of_block RA5.ac 1
                      have g2 : w5.cell? ⟨ab, 2, none⟩ = some (.int .u64 n) := cell_of_block RA5.ac 2
                      clear ht h5 hk5 hf5 SC RA5 m0 m1 m2
                      go_wp2_with fail
                      refine RC.out.mono ?_
                      rintro e w6 ⟨v6, rfl, ⟨B1, e1, B2, e2, rfl, hr6, hg6⟩, hb6⟩
                      have R6 := Lib.hid (R5.out.laid hb6 hr6 hg6)
                      have h6 := (hb6.block _ (block_lt R5.out.box)).trans R5.out.box
                      have r0 : w6.cell? ⟨b4, 0, none⟩ = some (.slice A1 s.ms.length c1) := cell_of_block h6 0
                      have r1 : w6.cell? ⟨b4, 1, none⟩ = some (.slice A2 s.act.length c2) := cell_of_block h6 1
                      have f0 := free_of_block h6 0
                      have f1 := free_of_block h6 1
                      clear hr6 hg6 hb6 RC p0 p1 g1 g2 h6
                      go_wp2_with fail
                      go_meet
                      exact ⟨0, s.leaveB, rfl, rfl, rfl, rfl, _, F5, _, _, _, _, R6.out⟩
                    · have k6 : (ki == 6) = false := beq_eq_false_iff_ne.2 h6
                      by_cases h7 : ki = 7
                      · subst h7
                        clear h0 k0
                        clear h1 k1
                        clear h2 k2
                        clear h3 k3
                        clear h4 k4
                        clear h5 k5
                        clear h6 k6
                        have SC := Lib.hid (rest_any R4.out.ds.1)
                        clear m0 m1 m2
                        have m0 : w4.cell? ⟨ab, 0, none⟩ = some (.int .i64 7) := cell_of_block RA4.out.ac 0
                        have m1 : w4.cell? ⟨ab, 1, none⟩ = some (.int .i64 x) := cell_of_block RA4.out.ac 1
                        have m2 : w4.cell? ⟨ab, 2, none⟩ = some (.int .u64 n) := cell_of_block RA4.out.ac 2
                        go_wp2_with fail
                        refine SC.out.mono ?_
                        rintro e w5 ⟨rfl, ht⟩
                        obtain ⟨F5, h5, hk5, hf5⟩ := R4.out.turn ht
                        have R5 := Lib.hid h5
                        have RA5 := RA4.out.turn hk5 hf5
                        have RC := Lib.hid (refleaveFF_any R5.out.isR OK.out)
                        have p0 : w5.cell? ⟨b4, 0, none⟩ = some (.slice A1 s.ms.length c1) := cell_of_block h5.box 0
                        have p1 : w5.cell? ⟨b4, 1, none⟩ = some (.slice A2 s.act.length c2) := cell_of_block h5.box 1
                        have g1 : w5.cell? ⟨ab, 1, none⟩ = some (.int .i64 x) := cell_of_block RA5.ac 1
                        have g2 : w5.cell? ⟨ab, 2, none⟩ = some (.int .u64 n) := cell_of_block RA5.ac 2
                        clear ht h5 hk5 hf5 SC RA5 m0 m1 m2
                        go_wp2_with fail
                        refine RC.out.mono ?_
                        rintro e w6 ⟨v6, rfl, ⟨B1, e1, B2, e2, rfl, hr6, hg6⟩, hb6⟩
                        have R6 := Lib.hid (R5.out.laid hb6 hr6 hg6)
                        have h6 := (hb6.block _ (block_lt R5.out.box)).trans R5.out.box
                        have r0 : w6.cell? ⟨b4, 0, none⟩ = some (.slice A1 s.ms.length c1) := cell_of_block h6 0
                        have r1 : w6.cell? ⟨b4, 1, none⟩ = some (.slice A2 s.act.length c2) := cell_of_block h6 1
                        have f0 := free_of_block h6 0
                        have f1 := free_of_block h6 1
                        clear hr6 hg6 hb6 RC p0 p1 g1 g2 h6
                        go_wp2_with fail
                        go_meet
                        exact ⟨0, s.leaveB, rfl, rfl, rfl, rfl, _, F5, _, _, _, _, R6.out⟩
                      · have k7 : (ki == 7) = false := beq_eq_false_iff_ne.2 h7
                        go_wp2_with fail
                        go_meet
                        exact ⟨0, false, rfl, rfl, rfl, rfl, s, F3, _, _, _, _, R4.out⟩
      case rest =>
        obtain ⟨E, B, rfl, rfl, rfl, rfl, s5, F5, B1, e1, B2, e2, h5⟩ := hcut
        have R5 := Lib.hid h5
        have R6 := Lib.hid (h5.below (below_drew _))
        have AC := Lib.hid (active_any R6.out.ds.1)
        have y1 := (cell_of_block h5.box 1 : _ = some (Value.slice B2 s5.act.length e2))
        clear h5 m0 m1 m2 R4 RA4 OK
        go_upto_region 40 with fail
        go_region_held3 (fun w' => w'.cell? ⟨b4, 1, none⟩ = some (.slice B2 s5.act.length e2)) (first | exact y1 | exact QS.out | exact QT.out)
          (first
            | (go_at_call 17; refine AC.out.mono ?_; rintro e w7 ⟨v7, rfl, ho7, hb7⟩; have R7 := Lib.hid (R6.out.below hb7); have O7 := Lib.hid ho7; have QS : Hid (w7.cell? ⟨b4, 1, none⟩ = some (.slice B2 s5.act.length e2)) := Lib.hid (cell_of_block R7.out.box 1); have SI : Hid (Calls Try.prog 16 #[v7, .slice B2 s5.act.length e2] w7 fun e w' => e = .returned (.bool true) ∧ Below w7.heap.size w7 w') := Lib.hid ((sameInts_any O7.out R7.out.rf.r2).mono (by rintro e w' ⟨rfl, hb⟩; exact ⟨by rw [decide_eq_true rfl], hb⟩)); clear ho7 hb7)
            | (go_at_call 16; refine SI.out.mono ?_; rintro e w8 ⟨rfl, hb8⟩; have R8 := Lib.hid (R7.out.below hb8); have QT : Hid (w8.cell? ⟨b4, 1, none⟩ = some (.slice B2 s5.act.length e2)) := Lib.hid (cell_of_block R8.out.box 1); clear hb8))
        go_wp2_with fail
        go_roundg (gk - 1)
        case measure => omega
        case rel => exact ⟨j + 1, by omega, by go_num, s5, F5, _, _, _, _, R8.out⟩
    · go_wp2_with fail
      go_ret
      exact ⟨rfl, R3.out.ds.2.1⟩
end Go.Proofs.Ytliepgmjpbjhfaa.Drr
