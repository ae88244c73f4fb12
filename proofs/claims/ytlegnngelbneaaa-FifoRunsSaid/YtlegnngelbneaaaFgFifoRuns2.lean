/- The law FifoRuns of floodgate's fifo layer: whatever is done with a line. There are no conditions: every line, every acts. -/
import Derived.Test.YtlegnngelbneaaaFgFifoRuns
namespace Go.Proofs.Ytlegnngelbneaaa.Fifo
open Go.RowKit Go.Proofs.Ytlegnngelbneaaa.Fg Go.ChangeShapes Go.WideShapes Go.ChangeAt

def RunNow (B g lb wb cap : Nat) (W : World) (w : World) : Prop := ∃ (ls : List (List Int)) (F : Nat → Prop) (vs : List Value) (A : Option Addr) (c : Nat), RunInv B g lb wb cap W ls ls F vs A c w
def RunRel (B g lb wb cap : Nat) (W : World) (n : Nat) (k : Nat) (i : Value) (w : World) : Prop := ∃ j : Nat, j + k = n ∧ i = .int .i64 j ∧ RunNow B g lb wb cap W w
theorem RunInv.now {B g lb wb cap : Nat} {W : World} {ls : List (List Int)} {F : Nat → Prop} {vs : List Value} {A : Option Addr} {c : Nat} {w : World} (h : RunInv B g lb wb cap W ls ls F vs A c w) : RunNow B g lb wb cap W w := ⟨_, _, _, _, _, h⟩

set_option maxRecDepth 100000 in
set_option maxHeartbeats 4000000 in
theorem runs_any (most : Int) (A : Option Addr) (c : Nat) (acts : List (Int × List Int)) (W : World) (ha : Acts W A acts) (hr : acts.length ≤ reachBytes) :
    Calls Try.prog 6 #[.int .i64 most, .slice A acts.length c] W fun e w' => e = .returned (.bool true) ∧ Below W.heap.size W w' := by
  obtain ⟨cap, hcap⟩ : ∃ cap : Nat, (cap : Int) = if most < 0 then 0 else if 64 < most then 64 else most := by
    refine ⟨(if most < 0 then 0 else if 64 < most then 64 else most : Int).toNat, ?_⟩
    split
    · omega
    · split <;> omega
  have HCAP := Lib.hid hcap
  have HCO : Hid (Ref19.capOf most = cap) := Lib.hid hcap.symm
  have HA := Lib.hid ha
  have hr' : acts.length ≤ 140737488351232 := hr
  clear hcap ha hr
  go_enter Try.func6, Try.ntmps6
  go_wp2_with fail
  refine (alive_any W).mono ?_
  rintro e w0 ⟨rfl, hb0⟩
  have HB0 := Lib.hid hb0
  clear hb0
  by_cases hlen : 300 < (acts.length : Int)
  · go_wp2_with fail
    go_ret
    exact ⟨rfl, HB0.out⟩
  · go_wp2_with fail
    refine (newq most cap w0 HCAP.out).mono ?_
    rintro e w1 ⟨g, lb, F0, rfl, hq, hb1, hF⟩
    have HQ := Lib.hid hq
    have HB1 := Lib.hid hb1
    have HF := Lib.hid hF
    clear hq hb1 hF
    go_wp2_with fail
    have hn := Ref19.new_any most w1
    rw [HCO.out] at hn
    refine hn.mono ?_
    rintro e w2 ⟨rfl, hb2⟩
    have inv : RunInv W.heap.size g lb w2.heap.size cap W [] [] F0 [] none 0 (w2.alloc (.cells #[.int .i64 cap, .slice none 0 0] 38)) := by
      have s0 := HB0.out.size
      have s1 := HB1.out.size
      have s2 := hb2.size
      exact ⟨isq_alloc (HQ.out.same (fun k hk => hb2.block k (HQ.out.lt k hk))) _, (fun k hk => Nat.le_trans s0 (HF.out k hk)), Nat.le_refl _, ((HB0.out.trans (HB1.out.mono s0)).trans (hb2.mono (by omega))).alloc (by omega) _, heap_alloc_at w2 _, (by omega),
        (fun hw => by have := HQ.out.lt _ hw; omega), ⟨World.ownsRow_nil _ _ _ _, (fun j x l hx => by simp at hx)⟩, (fun x hx => by cases hx), (fun k hk => by cases hk), (fun l hl => by cases hl)⟩
    have HI := Lib.hid inv.now
    obtain ⟨wb, hwb⟩ : ∃ wb, wb = w2.heap.size := ⟨_, rfl⟩
    have HWB := Lib.hid hwb
    clear hn hb2 inv
    go_wp2_with fail
    rw [← hwb] at HI ⊢
    clear hwb
    go_loopg [33] acts.length (fun k i wr => RunRel W.heap.size g lb wb cap W acts.length k i wr)
    case atStart => exact ⟨0, Nat.zero_add _, rfl, HI.out⟩
    case round =>
      obtain ⟨j, hj, rfl, hnow⟩ := hrel
      clear HI HWB HQ HB1 HF
      have HNOW := Lib.hid hnow
      clear hnow
      by_cases hlt : j < acts.length
      · obtain ⟨⟨k, l⟩, hkl⟩ : ∃ q, acts[j]? = some q := ⟨_, List.getElem?_eq_getElem hlt⟩
        obtain ⟨ls, F, vs, A6, c6, inv⟩ := HNOW.out
        obtain ⟨b, o, A', c', rfl, hc0, hc1, hsrc, hll, -⟩ := (HA.out.below inv.below).at_ j k l hkl
        have hls : l.length ≤ 140737488355328 := hll
        have HV := Lib.hid (inv.ext ((Keep.refl (fun _ => False) _).alloc (.cells #[.int .i64 k, .slice A' l.length c'] 29)))
        have HS : Hid (Src (wr.alloc (.cells #[.int .i64 k, .slice A' l.length c'] 29)) A' l.length c' (bv l)) := Lib.hid (hsrc.same fun ad had hne => heap_alloc_old _ _ (hsrc.lt had hne))
        have hb := inv.below
        have HBW := Lib.hid (hb.alloc inv.base (.cells #[.int .i64 k, .slice A' l.length c'] 29))
        clear inv hsrc hkl hll hb HNOW
        by_cases hlong : 2000 < (l.length : Int)
        · go_wp2_with fail
          go_ret
          exact ⟨rfl, HBW.out⟩
        · go_upto_block 2 with fail
          go_cut [] (fun wx => RunNow W.heap.size g lb wb cap W wx)
          case first =>
            by_cases hk0 : k = 0
            · subst hk0
              have hB0 := HV.out.base
              have hB0' : W.heap.size ≤ wr.heap.size + 1 := by simpa using hB0
              go_wp2_with (at_builtin; refine wpList_append_any rfl (.tmp 45) (.tmp 47) 27 rfl W.heap.size 5 (.int .u8 0) 1 1 Try.underlying27 info_u8 rfl (by decide) (by decide) (.slice (some ⟨wr.heap.size + 1, 0, none⟩) 0 0) 0 [] rfl ?a1 A' l.length c' (bv l) rfl ?a2 ?a3 (bv_one l) ?a5 ?a6 ?a7)
              case a1 =>
                have := World.ownsRow_made (base := W.heap.size) (e := 5) (size := 1) (wr.alloc (.cells #[.int .i64 0, .slice A' l.length c'] 29)) #[] 0 hB0 (Nat.zero_le _) rfl
                simpa using this
              case a2 => exact HS.out.same fun ad had hne => heap_alloc_old _ _ (HS.out.lt had hne)
              case a3 => simp [bv]
              case a6 => omega
              intro v9 w3 hown9 hgr9 _ hat9
              have hz3 : wr.heap.size + 2 ≤ w3.heap.size := by have := hgr9.size; simpa using this
              have k3 : Keep (fun _ => False) (wr.alloc (.cells #[.int .i64 0, .slice A' l.length c'] 29)) w3 :=
                ⟨hgr9.os, hgr9.tape, hgr9.output, by simp; omega, fun i hi _ => by
                  have hi' : i < wr.heap.size + 1 := by simpa using hi
                  rw [hgr9.block i (by simp; omega) (by simp [Value.ownBlock]; omega), heap_alloc_old _ _ hi]⟩
              have v9ge : ∀ i, v9.ownBlock = some i → wr.heap.size + 1 ≤ i := by
                intro i hi
                rcases hat9 with h | h
                · rw [h] at hi; injection hi with hi; simp only at hi; omega
                · rw [h] at hi; injection hi with hi; omega
              have v9lt : ∀ i, v9.ownBlock = some i → i < w3.heap.size := fun i hi => (hown9.lt i hi).2
              have inv3 := HV.out.ext k3
              have src3 : Src w3 A' l.length c' (bv l) := HS.out.same fun ad had hne => k3.block _ (HS.out.lt had hne) (fun h => h)
              have m0 : w3.cell? ⟨wb, 0, none⟩ = some (.int .i64 cap) := cell_of_block inv3.wq 0
              have m1 : w3.cell? ⟨wb, 1, none⟩ = some (.slice A6 ls.length c6) := cell_of_block inv3.wq 1
              have a1 : w3.cell? ⟨wr.heap.size, 1, none⟩ = some (.slice A' l.length c') := cell_of_block (cs := #[.int .i64 0, .slice A' l.length c']) ((k3.block _ (by simp) (fun h => h)).trans (heap_alloc_at wr _)) 1
              have hwbl : wb < w3.heap.size := block_lt inv3.wq
              have hwbr : wb < wr.heap.size + 1 := by have := block_lt HV.out.wq; simpa using this
              have hqr : g < wr.heap.size + 1 ∧ lb < wr.heap.size + 1 := by have := HV.out.q.lts; simpa using this
              have HFL : Hid (∀ k, F k → k < wr.heap.size + 1) := Lib.hid (fun k hk => by have := HV.out.q.lt k hk; simpa using this)
              have HXL : Hid (∀ x ∈ vs, ∀ k, x.ownBlock = some k → k < wr.heap.size + 1) := Lib.hid (fun x hx k hk => by have := HV.out.rlt x hx k hk; simpa using this)
              have HAL : Hid (∀ k, (Value.slice A6 ls.length c6).ownBlock = some k → k < wr.heap.size + 1) := Lib.hid (fun k hk => by have := (HV.out.rows.own.lt k hk).2; simpa using this)
              have hfew := inv3.q.cap_le
              have hbase3 := inv3.base
              have HV3 := Lib.hid inv3
              have HS3 := Lib.hid src3
              have HO3 := Lib.hid hown9
              have HGE := Lib.hid v9ge
              have HLT := Lib.hid v9lt
              obtain ⟨A9, c9, rfl, -⟩ := own_form hown9
              clear inv3 src3 hown9 hgr9 hat9 k3 v9ge v9lt HV HS HBW
              by_cases hroom : ls.length < cap
              · have HRO := Lib.hid hroom
                clear hroom
                go_wp2_with fail
                refine (Ref19.push_room W.heap.size cap A6 A' c6 c' vs ls l w3 HV3.out.rows hbase3 HS3.out (by omega) (by omega) (by have := HRO.out; omega)).mono ?_
                rintro e w4 ⟨A5, c5, A1, c1, rfl, hb4, hr4, hA1⟩
                have hs4 := hb4.size
                have inv5 := HV3.out.setw (o := .cells #[.int .i64 cap, .slice A5 (ls ++ [l]).length c5] 38) (A' := A5) (c' := c5) (ms' := ls ++ [l]) hb4 (own_base hr4.own hbase3)
                  (fun k hk => by have := (hr4.own.lt k hk).1; omega) (fun j x m hx hm => by
                    by_cases hjl : j < ls.length
                    · have hvl : vs.length = ls.length := by have := HV3.out.rows.own.1; omega
                      rw [List.getElem?_append_left (by omega)] at hx
                      rw [List.getElem?_append_left hjl] at hm
                      exact .inl ⟨List.mem_of_getElem? hx, HV3.out.rows.each j x m hx hm⟩
                    · have hvl : vs.length = ls.length := by have := HV3.out.rows.own.1; omega
                      refine .inr ⟨hr4.each j x m hx hm, fun k hk => ?_⟩
                      rw [List.getElem?_append_right (by omega)] at hx
                      have hj0 : j - vs.length = 0 := by
                        have := (List.getElem?_eq_some_iff.1 hx).1
                        simp at this
                        exact this
                      rw [hj0] at hx
                      injection hx with hx
                      subst hx
                      cases A1 with
                      | none => cases hk
                      | some ad =>
                        injection hk with hk
                        subst hk
                        exact hA1 ad rfl) (fun m hm => by
                    rcases List.mem_append.1 hm with hm | hm
                    · exact HV3.out.small m hm
                    · simp at hm; subst hm; omega)
                simp only [List.length_append, List.length_cons, List.length_nil, Nat.zero_add] at inv5
                have HV5 := Lib.hid inv5
                have HR4 := Lib.hid hr4
                have HA1 := Lib.hid hA1
                have HB4 := Lib.hid hb4
                have hw4 := (heap_alloc_old w4 (.cells #[.int .i64 cap, .slice A5 (ls.length + 1) c5] 38) (by omega)).trans ((hb4.block wb hwbl).trans HV3.out.wq)
                have p0 : (w4.alloc (.cells #[.int .i64 cap, .slice A5 (ls.length + 1) c5] 38)).cell? ⟨wb, 0, none⟩ = some (.int .i64 cap) := cell_of_block hw4 0
                have p1 : (w4.alloc (.cells #[.int .i64 cap, .slice A5 (ls.length + 1) c5] 38)).cell? ⟨wb, 1, none⟩ = some (.slice A6 ls.length c6) := cell_of_block hw4 1
                have f0 : (w4.alloc (.cells #[.int .i64 cap, .slice A5 (ls.length + 1) c5] 38)).frozen? ⟨wb, 0, none⟩ = false := free_of_block hw4 0
                have f1 : (w4.alloc (.cells #[.int .i64 cap, .slice A5 (ls.length + 1) c5] 38)).frozen? ⟨wb, 1, none⟩ = false := free_of_block hw4 1
                have own5 : (((w4.alloc (.cells #[.int .i64 cap, .slice A5 (ls.length + 1) c5] 38)).setCell ⟨wb, 0, none⟩ (.int .i64 cap)).setCell ⟨wb, 1, none⟩ (.slice A5 (ls.length + 1) c5)).ownsRow W.heap.size 5 1 (.slice A9 l.length c9) l.length (bv l) :=
                  own_keep (own_same HO3.out (fun k hk => hb4.block k (HLT.out k hk))) ((((Keep.refl (fun k => k = wb) w4).alloc _).setCell ⟨wb, 0, none⟩ _ (fun _ => rfl)).setCell ⟨wb, 1, none⟩ _ (fun _ => rfl)) (fun k hk e => by have := HGE.out k hk; omega)
                have HO5 := Lib.hid own5
                clear inv5 hr4 hA1 hb4 hw4 own5
                go_wp2_with fail
                refine (push_in HV5.out.q l A9 c9 (Src.of_own HO5.out) hls HRO.out).mono ?_
                rintro e w6 ⟨rfl, F6, hq6, hk6, hF6⟩
                have own6 := own_keep HO5.out hk6 (fun k hk e => by have := HGE.out k hk; omega)
                have HV6 := Lib.hid (HV5.out.queue hq6 hk6 hF6)
                have HO6 := Lib.hid own6
                have HO9 : Hid (∀ k, (Value.slice A9 l.length c9).ownBlock = some k → W.heap.size ≤ k ∧ ¬ F6 k ∧ ¬ k = wb ∧ ¬ (Value.slice A5 (ls ++ [l]).length c5).ownBlock = some k ∧ ∀ x ∈ vs ++ [.slice A1 l.length c1], ¬ x.ownBlock = some k) := by
                  refine Lib.hid (fun k hk => ?_)
                  have e1 := HGE.out k hk
                  have e2 := HLT.out k hk
                  refine ⟨by omega, fun hF => ?_, by omega, fun hA => ?_, fun x hx hxk => ?_⟩
                  · rcases hF6 k hF with h4 | h4
                    · have := HFL.out k h4; omega
                    · simp at h4; omega
                  · have := (HR4.out.own.lt k hA).1; omega
                  · rcases List.mem_append.1 hx with hx | hx
                    · have := HXL.out x hx k hxk; omega
                    · simp at hx
                      subst hx
                      cases A1 with
                      | none => cases hxk
                      | some ad =>
                        injection hxk with hxk
                        have := (HA1.out ad rfl).1
                        omega
                clear hq6 hk6 hF6 own6
                go_wp2_with fail
                go_loopg [64, 12] l.length (fun k i v w' => ∃ q : Nat, q + k = l.length ∧ i = .int .i64 q ∧ Incs A9 l.length w6 w')
                case atStart => exact ⟨0, Nat.zero_add _, rfl, Incs.start HO6.out⟩
                case round =>
                  obtain ⟨q, hq, rfl, inc⟩ := hrel
                  by_cases hql : q < l.length
                  · obtain ⟨g9, rfl, x9, hx9, hz9⟩ := inc.read hql
                    have HINC := Lib.hid inc
                    clear inc
                    go_wp2_with fail
                    go_roundg (gk - 1)
                    case measure => omega
                    case rel => exact ⟨q + 1, by omega, by go_num, HINC.out.step q _⟩
                  · have HINC := Lib.hid inc
                    clear inc
                    go_wp2_with fail
                    go_meet
                    exact (HV6.out.avoid HINC.out.keep (fun k ⟨ad, h1, h2⟩ => by subst h1 h2; exact (HO9.out _ rfl).1) (fun k hF ⟨ad, h1, h2⟩ => by subst h1 h2; exact (HO9.out _ rfl).2.1 hF)
                      (fun ⟨ad, h1, h2⟩ => by subst h1; exact (HO9.out _ rfl).2.2.1 h2.symm) (fun k hk ⟨ad, h1, h2⟩ => by subst h1 h2; exact (HO9.out _ rfl).2.2.2.1 hk) (fun x hx k hk ⟨ad, h1, h2⟩ => by subst h1 h2; exact (HO9.out _ rfl).2.2.2.2 x hx hk)).now
              · have HRO := Lib.hid (Nat.le_of_not_lt hroom)
                clear hroom
                go_wp2_with fail
                refine (Ref19.push_full cap A6 ls.length c6 (.slice A' l.length c') w3 ⟨_, _, _, rfl⟩ (by have := HRO.out; omega)).mono ?_
                rintro e w4 ⟨rfl, hb4⟩
                have hs4 := hb4.size
                have inv5 := HV3.out.setw (o := .cells #[.int .i64 cap, .slice A6 ls.length c6] 38) (A' := A6) (c' := c6) (ms' := ls) hb4 (own_same HV3.out.rows.own (fun k hk => hb4.block k (HV3.out.rows.own.lt k hk).2))
                  HV3.out.rne (fun j x m hx hm => .inl ⟨List.mem_of_getElem? hx, HV3.out.rows.each j x m hx hm⟩) HV3.out.small
                have HV5 := Lib.hid inv5
                have hw4 := (heap_alloc_old w4 (.cells #[.int .i64 cap, .slice A6 ls.length c6] 38) (by omega)).trans ((hb4.block wb hwbl).trans HV3.out.wq)
                have p0 : (w4.alloc (.cells #[.int .i64 cap, .slice A6 ls.length c6] 38)).cell? ⟨wb, 0, none⟩ = some (.int .i64 cap) := cell_of_block hw4 0
                have p1 : (w4.alloc (.cells #[.int .i64 cap, .slice A6 ls.length c6] 38)).cell? ⟨wb, 1, none⟩ = some (.slice A6 ls.length c6) := cell_of_block hw4 1
                have f0 : (w4.alloc (.cells #[.int .i64 cap, .slice A6 ls.length c6] 38)).frozen? ⟨wb, 0, none⟩ = false := free_of_block hw4 0
                have f1 : (w4.alloc (.cells #[.int .i64 cap, .slice A6 ls.length c6] 38)).frozen? ⟨wb, 1, none⟩ = false := free_of_block hw4 1
                have own5 : (((w4.alloc (.cells #[.int .i64 cap, .slice A6 ls.length c6] 38)).setCell ⟨wb, 0, none⟩ (.int .i64 cap)).setCell ⟨wb, 1, none⟩ (.slice A6 ls.length c6)).ownsRow W.heap.size 5 1 (.slice A9 l.length c9) l.length (bv l) :=
                  own_keep (own_same HO3.out (fun k hk => hb4.block k (HLT.out k hk))) ((((Keep.refl (fun k => k = wb) w4).alloc _).setCell ⟨wb, 0, none⟩ _ (fun _ => rfl)).setCell ⟨wb, 1, none⟩ _ (fun _ => rfl)) (fun k hk e => by have := HGE.out k hk; omega)
                have HO5 := Lib.hid own5
                clear inv5 hb4 hw4 own5
                go_wp2_with fail
                refine (push_out HV5.out.q l A9 c9 (Src.of_own HO5.out) hls HRO.out).mono ?_
                rintro e w6 ⟨rfl, F6, hq6, hk6, hF6⟩
                have own6 := own_keep HO5.out hk6 (fun k hk e => by have := HGE.out k hk; omega)
                have HV6 := Lib.hid (HV5.out.queue hq6 hk6 hF6)
                have HO6 := Lib.hid own6
                have HO9 : Hid (∀ k, (Value.slice A9 l.length c9).ownBlock = some k → W.heap.size ≤ k ∧ ¬ F6 k ∧ ¬ k = wb ∧ ¬ (Value.slice A6 ls.length c6).ownBlock = some k ∧ ∀ x ∈ vs, ¬ x.ownBlock = some k) := by
                  refine Lib.hid (fun k hk => ?_)
                  have e1 := HGE.out k hk
                  have e2 := HLT.out k hk
                  refine ⟨by omega, fun hF => ?_, by omega, fun hA => ?_, fun x hx hxk => ?_⟩
                  · rcases hF6 k hF with h4 | h4
                    · have := HFL.out k h4; omega
                    · simp at h4; omega
                  · have := HAL.out k hA; omega
                  · have := HXL.out x hx k hxk; omega
                clear hq6 hk6 hF6 own6
                go_wp2_with fail
                go_loopg [64, 12] l.length (fun k i v w' => ∃ q : Nat, q + k = l.length ∧ i = .int .i64 q ∧ Incs A9 l.length w6 w')
                case atStart => exact ⟨0, Nat.zero_add _, rfl, Incs.start HO6.out⟩
                case round =>
                  obtain ⟨q, hq, rfl, inc⟩ := hrel
                  by_cases hql : q < l.length
                  · obtain ⟨g9, rfl, x9, hx9, hz9⟩ := inc.read hql
                    have HINC := Lib.hid inc
                    clear inc
                    go_wp2_with fail
                    go_roundg (gk - 1)
                    case measure => omega
                    case rel => exact ⟨q + 1, by omega, by go_num, HINC.out.step q _⟩
                  · have HINC := Lib.hid inc
                    clear inc
                    go_wp2_with fail
                    go_meet
                    exact (HV6.out.avoid HINC.out.keep (fun k ⟨ad, h1, h2⟩ => by subst h1 h2; exact (HO9.out _ rfl).1) (fun k hF ⟨ad, h1, h2⟩ => by subst h1 h2; exact (HO9.out _ rfl).2.1 hF)
                      (fun ⟨ad, h1, h2⟩ => by subst h1; exact (HO9.out _ rfl).2.2.1 h2.symm) (fun k hk ⟨ad, h1, h2⟩ => by subst h1 h2; exact (HO9.out _ rfl).2.2.2.1 hk) (fun x hx k hk ⟨ad, h1, h2⟩ => by subst h1 h2; exact (HO9.out _ rfl).2.2.2.2 x hx hk)).now
            · have hkb : (k == 0) = false := by rw [beq_eq_false_iff_ne]; exact hk0
              clear hk0
              have m0 : (wr.alloc (.cells #[.int .i64 k, .slice A' l.length c'] 29)).cell? ⟨wb, 0, none⟩ = some (.int .i64 cap) := cell_of_block HV.out.wq 0
              have m1 : (wr.alloc (.cells #[.int .i64 k, .slice A' l.length c'] 29)).cell? ⟨wb, 1, none⟩ = some (.slice A6 ls.length c6) := cell_of_block HV.out.wq 1
              have hwbl := block_lt HV.out.wq
              have hfew := HV.out.q.cap_le
              have hbase := HV.out.base
              by_cases hk1 : k = 1
              · subst hk1
                cases ls with
                | nil =>
                  simp only [List.length_nil] at m1
                  have g1 := Lib.hid m1
                  go_wp2_with fail
                  refine (Ref19.pop_nil cap A6 c6 _).mono ?_
                  rintro e w4 ⟨rfl, hb4⟩
                  have inv5 := HV.out.setw (o := .cells #[.int .i64 cap, .slice A6 0 c6] 38) (A' := A6) (c' := c6) (ms' := []) hb4 (own_same HV.out.rows.own (fun k hk => hb4.block k (HV.out.rows.own.lt k hk).2))
                    HV.out.rne (fun j x m hx hm => .inl ⟨List.mem_of_getElem? hx, HV.out.rows.each j x m hx hm⟩) HV.out.small
                  simp only [List.length_nil] at inv5
                  have HV5 := Lib.hid inv5
                  have hs4 := hb4.size
                  have hw4 := (heap_alloc_old w4 (.cells #[.int .i64 cap, .slice A6 0 c6] 38) (by omega)).trans ((hb4.block wb hwbl).trans HV.out.wq)
                  have p0 : (w4.alloc (.cells #[.int .i64 cap, .slice A6 0 c6] 38)).cell? ⟨wb, 0, none⟩ = some (.int .i64 cap) := cell_of_block hw4 0
                  have p1 : (w4.alloc (.cells #[.int .i64 cap, .slice A6 0 c6] 38)).cell? ⟨wb, 1, none⟩ = some (.slice A6 0 c6) := cell_of_block hw4 1
                  have f0 : (w4.alloc (.cells #[.int .i64 cap, .slice A6 0 c6] 38)).frozen? ⟨wb, 0, none⟩ = false := free_of_block hw4 0
                  have f1 : (w4.alloc (.cells #[.int .i64 cap, .slice A6 0 c6] 38)).frozen? ⟨wb, 1, none⟩ = false := free_of_block hw4 1
                  clear inv5 hb4 hw4 m0 m1
                  go_wp2_with fail
                  refine (peekq_none HV5.out.q).mono ?_
                  rintro e w6 ⟨rfl, hb6⟩
                  have HV6 := Lib.hid (HV5.out.ext (Keep.of_new hb6))
                  clear hb6
                  go_wp2_with fail
                  go_loopg [90, 18] 0 (fun k i v w' => i = .int .i64 0 ∧ w' = w6)
                  case atStart => exact ⟨rfl, rfl⟩
                  case round =>
                    obtain ⟨rfl, rfl⟩ := hrel
                    go_wp2_with fail
                    refine (popq_none HV6.out.q).mono ?_
                    rintro e w8 ⟨rfl, hq8, hk8⟩
                    have HV8 := Lib.hid (HV6.out.queue hq8 hk8 (fun k hk => .inl hk))
                    have t8 := str_run [] none 0 w8 ⟨fun _ => ⟨rfl, rfl⟩, Nat.le_refl _, by simp [maxLen], fun _ h => by cases h⟩
                    simp only [List.length_nil] at t8
                    clear hq8 hk8
                    go_wp2_with fail
                    go_meet
                    exact HV8.out.now
                | cons l0 ls =>
                  simp only [List.length_cons] at m1 hfew
                  have hvl : vs.length = ls.length + 1 := by have := HV.out.rows.own.1; simpa using this
                  obtain ⟨x, xs, rfl⟩ : ∃ x xs, vs = x :: xs := by
                    cases vs with
                    | nil => simp at hvl
                    | cons x xs => exact ⟨x, xs, rfl⟩
                  obtain ⟨A1, c1, rfl, -⟩ := HV.out.rows.each 0 x l0 rfl rfl
                  have hvl' : xs.length = ls.length := by simpa using hvl
                  have HVL := Lib.hid hvl'
                  have hl0 := HV.out.small l0 (List.mem_cons_self ..)
                  clear hvl hvl'
                  go_wp2_with fail
                  refine (Ref19.pop_cons W.heap.size cap A6 c6 _ xs l0 ls _ HV.out.rows (by omega)).mono ?_
                  rintro e w4 ⟨A5, c5, rfl, hb4, hr4, hx4⟩
                  have hs4 := hb4.size
                  have inv5 := HV.out.setw (o := .cells #[.int .i64 cap, .slice A5 ls.length c5] 38) (A' := A5) (c' := c5) (ms' := ls) hb4 (own_base hr4.own hbase)
                    (fun k hk => by have := (hr4.own.lt k hk).1; have := HV.out.q.lts; omega) (fun j x m hx hm => .inl ⟨List.mem_cons_of_mem _ (List.mem_of_getElem? hx), HV.out.rows.each (j + 1) x m hx hm⟩)
                    (fun m hm => HV.out.small m (List.mem_cons_of_mem _ hm))
                  have HV5 := Lib.hid inv5
                  have hw4' := (hb4.block wb hwbl).trans HV.out.wq
                  have hw4 := (heap_alloc_old w4 (.cells #[.int .i64 cap, .slice A5 ls.length c5] 38) (by omega)).trans hw4'
                  have p0 : (w4.alloc (.cells #[.int .i64 cap, .slice A5 ls.length c5] 38)).cell? ⟨wb, 0, none⟩ = some (.int .i64 cap) := cell_of_block hw4 0
                  have p1 : (w4.alloc (.cells #[.int .i64 cap, .slice A5 ls.length c5] 38)).cell? ⟨wb, 1, none⟩ = some (.slice A6 (ls.length + 1) c6) := cell_of_block hw4 1
                  have f0 : (w4.alloc (.cells #[.int .i64 cap, .slice A5 ls.length c5] 38)).frozen? ⟨wb, 0, none⟩ = false := free_of_block hw4 0
                  have f1 : (w4.alloc (.cells #[.int .i64 cap, .slice A5 ls.length c5] 38)).frozen? ⟨wb, 1, none⟩ = false := free_of_block hw4 1
                  have x5 := ((HV.out.rows.each 0 _ l0 rfl rfl).keep (Keep.of_new (S := fun _ => False) hb4) hbase (fun _ h => h.elim)).keep ((((Keep.refl (fun k => k = wb) w4).alloc (.cells #[.int .i64 cap, .slice A5 ls.length c5] 38)).setCell ⟨wb, 0, none⟩ (.int .i64 cap) (fun _ => rfl)).setCell ⟨wb, 1, none⟩ (.slice A5 ls.length c5) (fun _ => rfl)) (by omega)
                    (fun k hk => by subst hk; exact ⟨HV.out.wnew, _, _, _, hw4', by decide⟩)
                  have HX5 := Lib.hid x5
                  have HXL : Hid (∀ k, (Value.slice A1 l0.length c1).ownBlock = some k → k < w4.heap.size) := Lib.hid (fun k hk => by have := HV.out.rlt _ (List.mem_cons_self ..) k hk; omega)
                  clear inv5 hr4 hx4 hb4 hw4 hw4' m0 m1 x5
                  go_wp2_with fail
                  refine (peekq_some HV5.out.q).mono ?_
                  rintro e w6 ⟨A9, c9, rfl, hb6, ho6⟩
                  have hs6 := hb6.size
                  have HV6 := Lib.hid (HV5.out.ext (Keep.of_new hb6))
                  have HX6 := Lib.hid (HX5.out.keep (Keep.of_new (S := fun _ => False) hb6) HV5.out.base (fun _ h => h.elim))
                  have HO6 := Lib.hid ho6
                  have HO9 : Hid (∀ k, (Value.slice A9 l0.length c9).ownBlock = some k → W.heap.size ≤ k ∧ ¬ F k ∧ ¬ k = wb ∧ ¬ (Value.slice A5 ls.length c5).ownBlock = some k ∧ (∀ x ∈ xs, ¬ x.ownBlock = some k) ∧ ¬ (Value.slice A1 l0.length c1).ownBlock = some k) := by
                    refine Lib.hid (fun k hk => ?_)
                    have e1 := (ho6.lt k hk).1
                    have hb5 := HV5.out.base
                    have e0 : w4.heap.size ≤ (((w4.alloc (.cells #[.int .i64 cap, .slice A5 ls.length c5] 38)).setCell ⟨wb, 0, none⟩ (.int .i64 cap)).setCell ⟨wb, 1, none⟩ (.slice A5 ls.length c5)).heap.size := by simp
                    exact ⟨by omega, fun hF => by have := HV5.out.q.lt k hF; omega, fun e => by have := block_lt HV5.out.wq; omega, fun e => by have := (HV5.out.rows.own.lt k e).2; omega, fun x hx e => by have := HV5.out.rlt x hx k e; omega, fun e => by have := HXL.out k e; omega⟩
                  clear hb6 ho6 hs6
                  go_wp2_with fail
                  go_loopg [90, 18] l0.length (fun k i v w' => ∃ q : Nat, q + k = l0.length ∧ i = .int .i64 q ∧ Incs A9 l0.length w6 w')
                  case atStart => exact ⟨0, Nat.zero_add _, rfl, Incs.start HO6.out⟩
                  case round =>
                    obtain ⟨q, hq, rfl, inc⟩ := hrel
                    by_cases hql : q < l0.length
                    · obtain ⟨g9, rfl, x9, hx9, hz9⟩ := inc.read hql
                      have HINC := Lib.hid inc
                      clear inc
                      go_wp2_with fail
                      go_roundg (gk - 1)
                      case measure => omega
                      case rel => exact ⟨q + 1, by omega, by go_num, HINC.out.step q _⟩
                    · have HINC := Lib.hid inc
                      clear inc
                      rename_i w7 _ _
                      have HV7 := Lib.hid (HV6.out.avoid HINC.out.keep (fun k ⟨ad, h1, h2⟩ => by subst h1 h2; exact (HO9.out _ rfl).1) (fun k hF ⟨ad, h1, h2⟩ => by subst h1 h2; exact (HO9.out _ rfl).2.1 hF)
                        (fun ⟨ad, h1, h2⟩ => by subst h1; exact (HO9.out _ rfl).2.2.1 h2.symm) (fun k hk ⟨ad, h1, h2⟩ => by subst h1 h2; exact (HO9.out _ rfl).2.2.2.1 hk) (fun x hx k hk ⟨ad, h1, h2⟩ => by subst h1 h2; exact (HO9.out _ rfl).2.2.2.2.1 x hx hk))
                      have HX7 := Lib.hid (HX6.out.avoid HINC.out.keep (fun k hk ⟨ad, h1, h2⟩ => by subst h1 h2; exact (HO9.out _ rfl).2.2.2.2.2 hk))
                      go_wp2_with fail
                      refine (popq_some HV7.out.q).mono ?_
                      rintro e w8 ⟨A3, c3, rfl, hq8, hk8, ho8, -⟩
                      have HV8 := Lib.hid (HV7.out.queue hq8 hk8 (fun k hk => .inl hk))
                      obtain ⟨A1', c1', e1, hs1, -⟩ := HX7.out.keep hk8 HV7.out.base (HV7.out.q.type HV7.out.new)
                      injection e1 with e1 _ e1'
                      subst e1 e1'
                      have t8 := str_run l0 A1 c1 w8 hs1
                      have t9 := str_run l0 A3 c3 w8 (Src.of_own ho8)
                      clear hq8 hk8 ho8 hs1
                      go_wp2_with fail
                      go_meet
                      exact HV8.out.now
              · have hkb1 : (k == 1) = false := by rw [beq_eq_false_iff_ne]; exact hk1
                clear hk1
                by_cases hk2 : k = 2
                · subst hk2
                  have hfz := free_of_block HV.out.wq 1
                  go_wp2_with fail
                  refine (clearq HV.out.clear.q).mono ?_
                  rintro e w8 ⟨rfl, hq8, hk8⟩
                  have HV8 := Lib.hid (HV.out.clear.queue hq8 hk8 (fun k hk => .inl hk))
                  clear hq8 hk8
                  go_wp2_with fail
                  go_meet
                  exact HV8.out.now
                · have hkb2 : (k == 2) = false := by rw [beq_eq_false_iff_ne]; exact hk2
                  clear hk2
                  go_wp2_with fail
                  go_meet
                  exact HV.out.now
          case rest =>
            clear HV HS HBW
            obtain ⟨ls, F, vs, A6, c6, inv⟩ := hcut
            have m0 : wc.cell? ⟨wb, 0, none⟩ = some (.int .i64 cap) := cell_of_block inv.wq 0
            have m1 : wc.cell? ⟨wb, 1, none⟩ = some (.slice A6 ls.length c6) := cell_of_block inv.wq 1
            have hwbl := block_lt inv.wq
            have hfew := inv.q.cap_le
            have HV := Lib.hid inv
            clear inv
            have MM : Hid (wc.cell? ⟨wb, 0, none⟩ = some (.int .i64 cap) ∧ wc.cell? ⟨wb, 1, none⟩ = some (.slice A6 ls.length c6)) := Lib.hid ⟨m0, m1⟩
            have PL := Lib.hid (fun m => len_any (HV.out.ext ((Keep.refl _ _).drewN m)).q)
            have PB := Lib.hid (fun m => bytes_any (HV.out.ext ((Keep.refl _ _).drewN m)).q)
            have PR := Lib.hid (fun m => Ref19.bytes_any W.heap.size cap A6 c6 vs ls (wc.drewN m) (HV.out.ext ((Keep.refl _ _).drewN m)).rows (by omega) (fun l hl => by have := HV.out.small l hl; omega))
            go_wp2_with fail
            go_region_held3 (fun w' => w'.cell? ⟨wb, 0, none⟩ = some (.int .i64 cap) ∧ w'.cell? ⟨wb, 1, none⟩ = some (.slice A6 ls.length c6)) (first | go_keep | exact cc1) ((first
              | (go_at_call_of 11 (Value.pointer (some ⟨g, 0, none⟩)); refine (PL.out 1).mono ?_; rintro e w3 ⟨rfl, rfl⟩)
              | (go_at_call_of 12 (Value.pointer (some ⟨g, 0, none⟩)); first | (refine (PB.out 1).mono ?_; rintro e w3 ⟨rfl, rfl⟩) | (refine (PB3.out).mono ?_; rintro e w3 ⟨rfl, rfl⟩))
              | (go_at_call 18; refine (PR.out 1).mono ?_; rintro e w3 ⟨rfl, hb3⟩; have cc1 := And.intro ((hb3.cell (p := ⟨wb, 0, none⟩) hwbl).trans MM.out.1) ((hb3.cell (p := ⟨wb, 1, none⟩) hwbl).trans MM.out.2); have PB3 := Lib.hid (bytes_any (HV.out.ext (((Keep.refl _ _).drewN 1).trans (Keep.of_new (S := fun _ => False) hb3) (fun _ _ h => h))).q); have BE3 := Lib.hid hb3; clear hb3)))
            all_goals (go_wp2_with fail; go_roundg (gk - 1))
            all_goals first | omega | exact ⟨j + 1, by omega, by go_num, (HV.out.ext (((Keep.refl _ _).drewN 1).trans (Keep.of_new (S := fun _ => False) BE3.out) (fun _ _ h => h))).now⟩
      · obtain ⟨ls, F, vs, A6, c6, inv⟩ := HNOW.out
        have hb := Lib.hid inv.below
        clear inv HNOW
        go_wp2_with fail
        go_ret
        exact ⟨rfl, hb.out⟩

set_option maxRecDepth 100000 in
theorem runs_lifted (os : Os) (started : os.Started) (H : Type) (enc : TypeId × Value → H) :
    ReturnsInHanded {} Try.checked os 6 .any (Rows.fifoRunsSpec.pre6 enc Try.prog Try.f6 Rows.fifoRunsRow.domain false) (Rows.fifoRunsSpec.post enc Try.prog Try.f6 false true false false) := by
  refine law_lifted (C := Try.checked) laidOut own started (by kernel_rfl) Try.func6 rfl Try.underlying4 (by kernel_rfl) rfl
    (ChangeSpec.witness6 (enc := enc) (C := Try.checked) false ⟨#[], #[.int .i64 0, .slice none 0 0], []⟩ 8 (by kernel_rfl) (by kernel_rfl) (by kernel_rfl) (by kernel_rfl)) ?_
  intro W base args ds p hval0 hA0 _ hsz0
  have hval : ∀ (j : Nat) t v, Try.f6.params[j]? = some t → args[j]? = some v → Value.okWide Try.prog W .any base t v := hval0
  have hA : DataW.TrodAll enc Try.prog W 0 (fun _ => true) true Try.f6.params.toList args ds p := hA0
  have hsz : (DataW.weightsEach Try.prog Try.f6.params.toList ds).all (· ≤ reachBytes) = true := hsz0
  rw [Try.params6] at hA hval hsz
  obtain ⟨v0, vs0, d0, ds0, p0, q0, rfl, rfl, rfl, h0, r0⟩ := trodAll_cons hA
  obtain ⟨v1, vs1, d1, ds1, p1, q1, rfl, rfl, rfl, h1, r1⟩ := trodAll_cons r0
  obtain ⟨rfl, rfl, rfl⟩ := trodAll_nil r1
  obtain ⟨most, rfl, rfl, rfl, wm⟩ := open_int Try.underlying3 (hval 0 _ v0 rfl rfl) h0
  obtain ⟨A, c, acts, rfl, hc, ha, hr⟩ := open_acts (hval 1 _ v1 rfl rfl) h1 (fun n hn => of_decide_eq_true (List.all_eq_true.1 hsz n (DataW.weights_mem_each (j := 1) rfl rfl n hn)))
  exact ⟨rfl, runs_any most A c acts W ha hr⟩

end Go.Proofs.Ytlegnngelbneaaa.Fifo
namespace Go.Proofs.Ytlegnngelbneaaa
/-- The row, under a short name, for the claim. -/
theorem fifoRuns_holds : Rows.FifoRunsSaid :=
  OpenClaim.holds_of_wide 6 Try.f6 rfl rfl rfl rfl rfl rfl rfl ⟨rfl, rfl, rfl, rfl, rfl⟩ rfl rfl rfl rfl rfl (by kernel_rfl) Try.func6 (by kernel_rfl)
    (of_decide_eq_true (by kernel_rfl)) (by unfold Func.isWrapper; first | (rw [if_pos (by decide +kernel)]; kernel_rfl) | (rw [if_neg (by decide +kernel)]; exact ⟨rfl, rfl⟩))
    (fun os started H enc _ => Fifo.runs_lifted os started H enc)
#print axioms fifoRuns_holds
end Go.Proofs.Ytlegnngelbneaaa
