/- The law FifoOrder of floodgate's fifo layer: what comes out of a line is what went in, in order. There are no conditions: every line, every acts. -/
import Derived.Test.YtlegnngelbneaaaFgFifoOrder
namespace Go.Proofs.Ytlegnngelbneaaa.Fifo
open Go.RowKit Go.Proofs.Ytlegnngelbneaaa.Fg Go.ChangeShapes Go.WideShapes Go.ChangeAt

/-- The relation of the law's first loop. -/
def ORel (B g lb cap : Nat) (W : World) (n : Nat) (v6 v7 i : Value) (wr : World) : Prop :=
  ∃ (j : Nat) (ls outs : List (List Int)) (F : Nat → Prop) (vs6 vs7 : List Value) (A6 A7 : Option Addr) (c6 c7 : Nat), j ≤ n ∧ i = .int .i64 j ∧ v6 = .slice A6 (outs.length + ls.length) c6 ∧ v7 = .slice A7 outs.length c7 ∧ OInv B g lb cap W v6 v7 j ls outs F vs6 vs7 wr
theorem ORel.mk' {B g lb cap : Nat} {W : World} {n : Nat} {v6 v7 : Value} {j : Nat} {ls outs : List (List Int)} {F : Nat → Prop} {vs6 vs7 : List Value} {wr : World} (h : OInv B g lb cap W v6 v7 j ls outs F vs6 vs7 wr) (hj : j ≤ n) {i : Value} (hi : i = .int .i64 j) : ORel B g lb cap W n v6 v7 i wr := by
  obtain ⟨A6, c6, h6, -⟩ := own_form h.rin.own
  obtain ⟨A7, c7, h7, -⟩ := own_form h.rout.own
  exact ⟨j, ls, outs, F, vs6, vs7, A6, A7, c6, c7, hj, hi, by rw [h6, List.length_append], h7, h⟩
theorem src_one (w : World) (x : Value) (t : TypeId) : Src (w.alloc (.cells #[x] t)) (some ⟨w.heap.size, 0, none⟩) 1 1 [x] :=
  ⟨(fun h => by cases h), Nat.le_refl _, by simp [maxLen], fun ad had i u hu => by
    injection had with had
    subst had
    rw [Addr.add_lit, Nat.zero_add, cell_of_block (heap_alloc_at w _)]
    simpa using hu⟩

set_option maxRecDepth 100000 in
set_option maxHeartbeats 4000000 in
theorem order_any (most : Int) (A : Option Addr) (c : Nat) (acts : List (Int × List Int)) (W : World) (ha : Acts W A acts) (_hc : acts.length ≤ c) (hr : acts.length ≤ reachBytes) :
    Calls Try.prog 3 #[.int .i64 most, .slice A acts.length c] W fun e w' => e = .returned (.bool true) ∧ Below W.heap.size W w' := by
  obtain ⟨cap, hcap⟩ : ∃ cap : Nat, (cap : Int) = if most < 0 then 0 else if 64 < most then 64 else most := by
    refine ⟨(if most < 0 then 0 else if 64 < most then 64 else most : Int).toNat, ?_⟩
    split
    · omega
    · split <;> omega
  have HCAP := Lib.hid hcap
  have HA := Lib.hid ha
  have hr' : acts.length ≤ 140737488351232 := hr
  clear hcap ha hr
  go_enter Try.func3, Try.ntmps3
  go_wp2_with fail
  refine (alive_any W).mono ?_
  rintro e w0 ⟨rfl, hb0⟩
  have HB0 := Lib.hid hb0
  clear hb0
  by_cases hlen : 300 < (acts.length : Int)
  · go_wp2_with fail
    go_ret
    exact ⟨rfl, HB0.out⟩
  · have hn : acts.length ≤ 300 := by omega
    go_wp2_with fail
    refine (newq most cap w0 HCAP.out).mono ?_
    rintro e w1 ⟨g, lb, F, rfl, hq, hb, hF⟩
    have hb1 : Below W.heap.size W w1 := HB0.out.trans (hb.mono HB0.out.size)
    have hF1 : ∀ k, F k → W.heap.size ≤ k := fun k hk => Nat.le_trans HB0.out.size (hF k hk)
    have inv : OInv W.heap.size g lb cap W (.slice (some ⟨w1.heap.size, 0, none⟩) 0 0) (.slice (some ⟨w1.heap.size + 1, 0, none⟩) 0 0) 0 [] [] F [] [] ((w1.alloc (.cells #[] 27)).alloc (.cells #[] 27)) := by
      have s1 := hb1.size
      refine ⟨isq_alloc (isq_alloc hq _) _, hF1, Nat.le_refl _, (hb1.alloc s1 _).alloc (by simp; omega) _, ⟨?_, fun j x l hx => by simp at hx⟩, ⟨?_, fun j x l hx => by simp at hx⟩, by simp, ?_, ?_, ?_⟩
      · exact (World.ownsRow_made w1 #[] 0 s1 (Nat.zero_le _) rfl).alloc _
      · have := World.ownsRow_made (base := W.heap.size) (e := 27) (size := 1) (w1.alloc (.cells #[] 27)) #[] 0 (by simp; omega) (Nat.zero_le _) rfl
        simpa using this
      · intro k hk e
        injection hk with hk
        have := hq.lt k e
        simp only at hk
        omega
      · intro k hk e
        injection hk with hk
        have := hq.lt k e
        simp only at hk
        omega
      · intro k hk hk'
        injection hk with hk
        injection hk' with hk'
        subst hk
        simp only at hk'
        omega
    have HI := Lib.hid inv
    clear hq hb hF hb1 hF1 inv
    go_wp2_with fail
    go_loopw [6, 7, 24] (fun v6 v7 i wr => ORel W.heap.size g lb cap W acts.length v6 v7 i wr) (fun _ _ i _ => acts.length - (intOf i).toNat)
    case atStart => exact ORel.mk' HI.out (Nat.zero_le _) rfl
    case round =>
      obtain ⟨j, ls, outs, F1, vs6, vs7, A6, A7, c6, c7, hj, rfl, rfl, rfl, inv⟩ := hrel
      clear HI
      by_cases hlt : j < acts.length
      · obtain ⟨⟨k, l⟩, hkl⟩ : ∃ q, acts[j]? = some q := ⟨_, List.getElem?_eq_getElem hlt⟩
        obtain ⟨b, o, A', c', rfl, hc0', hc1', hsrc0, hll, hbl, -⟩ := HA.out.at_ j k l hkl
        have hc0 := (inv.below.cell (p := ⟨b, o + j * 2, none⟩) hbl).trans hc0'
        have hc1 := (inv.below.cell (p := ⟨b, o + j * 2 + 1, none⟩) hbl).trans hc1'
        have hll' : l.length ≤ 140737488355328 := hll
        have hsrc : Src wr A' l.length c' (bv l) := hsrc0.same fun ad had hne => inv.below.block _ (hsrc0.lt had hne)
        have hrd : RdF W.heap.size wr (.slice A' l.length c') l := ⟨A', c', rfl, hsrc, fun hne ad had => .inl (hsrc0.lt had (fun e => hne (by simpa [bv] using e)))⟩
        have hB := inv.base
        have inv2 := inv.alloc (.cells #[.int .i64 k, .slice A' l.length c'] 29)
        have src2 : Src (wr.alloc (.cells #[.int .i64 k, .slice A' l.length c'] 29)) A' l.length c' (bv l) := hsrc.same fun ad had hne => heap_alloc_old _ _ (hsrc.lt had hne)
        have rd2 : RdF W.heap.size (wr.alloc (.cells #[.int .i64 k, .slice A' l.length c'] 29)) (.slice A' l.length c') l := hrd.keep (S := fun _ => False) ((Keep.refl _ _).alloc _) hB (fun _ h => h.elim)
        have hfew := inv.few
        have HN := Lib.hid (fun n hn => inv.q.at_new (n := n) hn)
        have h6lt := Lib.hid (fun k hk => (inv.rin.own.lt k hk).2)
        have h7lt := Lib.hid (fun k hk => (inv.rout.own.lt k hk).2)
        have HV2 := Lib.hid inv2
        have HS2 := Lib.hid src2
        have HR2 := Lib.hid rd2
        clear inv hsrc hsrc0 hkl hc0' hc1' hrd inv2 src2 rd2 hll
        by_cases hk0 : k = 0
        · subst hk0
          by_cases hroom : ls.length < cap
          · have HRO := Lib.hid hroom
            clear hroom
            go_wp2_with fail
            refine (push_in HV2.out.q l A' c' HS2.out hll' HRO.out).mono ?_
            rintro e w2 ⟨rfl, F2, hq2, hk2, hF2⟩
            have cc1 : w2.cell? ⟨wr.heap.size, 1, none⟩ = some (.slice A' l.length c') := by
              have e := hk2.cell (p := ⟨wr.heap.size, 1, none⟩) (by simp) (HN.out _ (Nat.le_refl _))
              rw [e]; go_simp
            have cc0 : w2.cell? ⟨wr.heap.size, 0, none⟩ = some (.int .i64 0) := by
              have e := hk2.cell (p := ⟨wr.heap.size, 0, none⟩) (by simp) (HN.out _ (Nat.le_refl _))
              rw [e]; go_simp
            have sz2 := hk2.size
            have hbase2 : W.heap.size ≤ w2.heap.size := by simp at sz2; omega
            have hlt2 : wr.heap.size < w2.heap.size := by simp at sz2; omega
            obtain ⟨-, hrin2, -⟩ := HV2.out.queue hk2
            have HQ2 := Lib.hid hq2
            have HF2 := Lib.hid hF2
            have HIN := Lib.hid hrin2
            have HK2 := Lib.hid hk2
            clear hq2 hF2 hrin2 hk2 sz2
            go_wp2_with (at_builtin; refine wpList_append_any rfl (.tmp 38) (.tmp 41) 26 rfl W.heap.size 27 (.slice none 0 0) 1 24 Try.underlying26 info_bytes rfl (by decide) (by decide) (.slice A6 (outs.length + ls.length) c6) (outs.length + ls.length) vs6 rfl ?h1 (some ⟨w2.heap.size, 0, none⟩) 1 1 [.slice A' l.length c'] rfl ?h2 rfl ?h3 ?h4 ?h5 ?h6)
            case h1 => have h := HIN.out.own.alloc (.cells #[.slice A' l.length c'] 27); rw [List.length_append] at h; exact h
            case h2 => exact src_one w2 _ _
            case h3 => intro u hu; simp at hu; subst hu; rfl
            case h4 => omega
            case h5 => simp; omega
            intro v6' w3 hown6 hgr6 _ hat6
            have inv3 := HV2.out.pushed HQ2.out HK2.out HF2.out HR2.out hown6 hgr6 (by simpa using hat6)
            have dd0 : w3.cell? ⟨wr.heap.size, 0, none⟩ = some (.int .i64 0) := by
              refine (hgr6.cell (a := ⟨wr.heap.size, 0, none⟩) (v := .int .i64 0) ?_ ?_)
              · rw [World.cell?_of_block (heap_alloc_old w2 _ hlt2)]; exact cc0
              · intro e
                have := h6lt.out wr.heap.size e.symm
                omega
            have HI3 := Lib.hid inv3
            clear inv3 hown6 hgr6 hat6 cc0 cc1
            go_wp2_with fail
            go_roundw
            case rel => exact ORel.mk' HI3.out (by omega) (by go_num)
            case measure => simp [intOf]; omega
          · have HRO := Lib.hid (Nat.le_of_not_lt hroom)
            clear hroom
            go_wp2_with fail
            refine (push_out HV2.out.q l A' c' HS2.out hll' HRO.out).mono ?_
            rintro e w2 ⟨rfl, F2, hq2, hk2, hF2⟩
            have cc0 : w2.cell? ⟨wr.heap.size, 0, none⟩ = some (.int .i64 0) := by
              have e := hk2.cell (p := ⟨wr.heap.size, 0, none⟩) (by simp) (HN.out _ (Nat.le_refl _))
              rw [e]; go_simp
            have HI3 := Lib.hid (HV2.out.refused hq2 hk2 hF2)
            clear hq2 hF2 hk2
            go_wp2_with fail
            go_roundw
            case rel => exact ORel.mk' HI3.out (by omega) (by go_num)
            case measure => simp [intOf]; omega
        · have hkb : (k == 0) = false := by rw [beq_eq_false_iff_ne]; exact hk0
          clear hk0
          by_cases hk1 : k = 1
          · subst hk1
            cases ls with
            | nil =>
              go_wp2_with fail
              refine (popq_none HV2.out.q).mono ?_
              rintro e w2 ⟨rfl, hq2, hk2⟩
              have HI3 := Lib.hid (HV2.out.refused hq2 hk2 (fun k hk => .inl hk))
              clear hq2 hk2
              go_wp2_with fail
              go_roundw
              case rel => exact ORel.mk' HI3.out (by omega) (by go_num)
              case measure => simp [intOf]; omega
            | cons l0 ls =>
              go_wp2_with fail
              refine (popq_some HV2.out.q).mono ?_
              rintro e w2 ⟨A2, c2, rfl, hq2, hk2, ho2, -⟩
              have sz2 := hk2.size
              have hbase2 : W.heap.size ≤ w2.heap.size := by simp at sz2; omega
              obtain ⟨-, -, hrout2⟩ := HV2.out.queue hk2
              have HQ2 := Lib.hid hq2
              have HOUT := Lib.hid hrout2
              have HK2 := Lib.hid hk2
              have HO2 := Lib.hid ho2
              clear hq2 hrout2 hk2 sz2 ho2
              go_wp2_with (at_builtin; refine wpList_append_any rfl (.tmp 52) (.tmp 54) 26 rfl W.heap.size 27 (.slice none 0 0) 1 24 Try.underlying26 info_bytes rfl (by decide) (by decide) (.slice A7 outs.length c7) outs.length vs7 rfl ?i1 (some ⟨w2.heap.size, 0, none⟩) 1 1 [.slice A2 l0.length c2] rfl ?i2 rfl ?i3 ?i4 ?i5 ?i6)
              case i1 => exact HOUT.out.own.alloc _
              case i2 => exact src_one w2 _ _
              case i3 => intro u hu; simp at hu; subst hu; rfl
              case i4 => omega
              case i5 => simp; omega
              intro v7' w3 hown7 hgr7 _ hat7
              have HI3 := Lib.hid (HV2.out.popped HQ2.out HK2.out HO2.out hown7 hgr7 (by simpa using hat7))
              clear hown7 hgr7 hat7
              go_wp2_with fail
              go_roundw
              case rel => exact ORel.mk' HI3.out (by omega) (by go_num)
              case measure => simp [intOf]; omega
          · have hkb1 : (k == 1) = false := by rw [beq_eq_false_iff_ne]; exact hk1
            clear hk1
            have HI3 := Lib.hid (HV2.out.more (Nat.le_succ j))
            go_wp2_with fail
            go_roundw
            case rel => exact ORel.mk' HI3.out (by omega) (by go_num)
            case measure => simp [intOf]; omega
      · have HV := Lib.hid inv
        have hfew := inv.few
        clear inv
        go_wp2_with fail
        refine (len_any HV.out.q).mono ?_
        rintro e w2 ⟨rfl, rfl⟩
        go_wp2_with fail
        go_loopw [67] (fun i w' => ∃ (q m : Nat), q ≤ outs.length ∧ i = .int .i64 q ∧ w' = wr.drewN m) (fun i _ => outs.length - (intOf i).toNat)
        case atStart => exact ⟨0, 0, Nat.zero_le _, rfl, rfl⟩
        case round =>
          obtain ⟨q, m, hq, rfl, rfl⟩ := hrel
          by_cases hql : q < outs.length
          · have inv := HV.out
            obtain ⟨A7', c7', e7, -, -, n7, s7⟩ := own_form inv.rout.own
            obtain ⟨A6', c6', e6, -, -, n6, s6⟩ := own_form inv.rin.own
            injection e7 with e7 e7n e7'
            injection e6 with e6 e6n e6'
            clear e7n e6n
            subst e7 e6 e7' e6'
            have l7 : vs7.length = outs.length := by have := inv.rout.own.1; omega
            have l6 : vs6.length = outs.length + ls.length := by have := inv.rin.own.1; rw [List.length_append] at this; omega
            obtain ⟨x7, hx7⟩ : ∃ x, vs7[q]? = some x := ⟨_, List.getElem?_eq_getElem (by omega)⟩
            obtain ⟨x6, hx6⟩ : ∃ x, vs6[q]? = some x := ⟨_, List.getElem?_eq_getElem (by omega)⟩
            obtain ⟨l, hl⟩ : ∃ l, outs[q]? = some l := ⟨_, List.getElem?_eq_getElem hql⟩
            obtain ⟨B7, d7, rfl, r7, -⟩ := inv.rout.each q x7 l hx7 hl
            obtain ⟨B6, d6, rfl, r6, -⟩ := inv.rin.each q x6 l hx6 (by rw [List.getElem?_append_left hql]; exact hl)
            cases A7 with
            | none => have := (n7 rfl).1; omega
            | some ad7 =>
              cases A6 with
              | none => have := (n6 rfl).1; rw [List.length_append] at this; omega
              | some ad6 =>
                obtain ⟨g7, rfl, k7⟩ := s7 ad7 rfl
                obtain ⟨g6, rfl, k6⟩ := s6 ad6 rfl
                have z7 := k7 q _ hx7
                have z6 := k6 q _ hx6
                have t7 : ∀ m, (convert 27 9 (.slice B7 l.length d7)).run Try.prog (wr.drewN m) = .ok (.string (strOfNums l)) (wr.drewN m) := fun m => str_run l B7 d7 _ (r7.same (fun _ _ _ => rfl))
                have t6 : ∀ m, (convert 27 9 (.slice B6 l.length d6)).run Try.prog (wr.drewN m) = .ok (.string (strOfNums l)) (wr.drewN m) := fun m => str_run l B6 d6 _ (r6.same (fun _ _ _ => rfl))
                have i0 : (0 : Int) ≤ (q : Int) := by omega
                have i1 : (q : Int) < (outs.length : Int) := by omega
                have i2 : (q : Int) < (outs.length : Int) + (ls.length : Int) := by omega
                have i3 : q < outs.length + ls.length := by omega
                clear inv n7 n6 s7 s6 l7 l6 hx7 hx6 hl r7 r6 k7 k6
                go_wp2_with fail
                go_quiet (fail)
                go_wp2_with fail
                go_roundw
                case rel => exact ⟨q + 1, _, by omega, by go_num, rfl⟩
                case measure => simp [intOf]; omega
          · go_wp2_with fail
            go_ret
            exact ⟨rfl, below_drewN HV.out.below _⟩

set_option maxRecDepth 100000 in
theorem order_lifted (os : Os) (started : os.Started) (H : Type) (enc : TypeId × Value → H) :
    ReturnsInHanded {} Try.checked os 3 .any (Rows.fifoOrderSpec.pre6 enc Try.prog Try.f3 Rows.fifoOrderRow.domain false) (Rows.fifoOrderSpec.post enc Try.prog Try.f3 false true false false) := by
  refine law_lifted (C := Try.checked) laidOut own started (by kernel_rfl) Try.func3 rfl Try.underlying4 (by kernel_rfl) rfl
    (ChangeSpec.witness6 (enc := enc) (C := Try.checked) false ⟨#[], #[.int .i64 0, .slice none 0 0], []⟩ 8 (by kernel_rfl) (by kernel_rfl) (by kernel_rfl) (by kernel_rfl)) ?_
  intro W base args ds p hval0 hA0 _ hsz0
  have hval : ∀ (j : Nat) t v, Try.f3.params[j]? = some t → args[j]? = some v → Value.okWide Try.prog W .any base t v := hval0
  have hA : DataW.TrodAll enc Try.prog W 0 (fun _ => true) true Try.f3.params.toList args ds p := hA0
  have hsz : (DataW.weightsEach Try.prog Try.f3.params.toList ds).all (· ≤ reachBytes) = true := hsz0
  rw [Try.params3] at hA hval hsz
  obtain ⟨v0, vs0, d0, ds0, p0, q0, rfl, rfl, rfl, h0, r0⟩ := trodAll_cons hA
  obtain ⟨v1, vs1, d1, ds1, p1, q1, rfl, rfl, rfl, h1, r1⟩ := trodAll_cons r0
  obtain ⟨rfl, rfl, rfl⟩ := trodAll_nil r1
  obtain ⟨most, rfl, rfl, rfl, wm⟩ := open_int Try.underlying3 (hval 0 _ v0 rfl rfl) h0
  obtain ⟨A, c, acts, rfl, hc, ha, hr⟩ := open_acts (hval 1 _ v1 rfl rfl) h1 (fun n hn => of_decide_eq_true (List.all_eq_true.1 hsz n (DataW.weights_mem_each (j := 1) rfl rfl n hn)))
  exact ⟨rfl, order_any most A c acts W ha hc hr⟩

end Go.Proofs.Ytlegnngelbneaaa.Fifo
namespace Go.Proofs.Ytlegnngelbneaaa
/-- The row, under a short name, for the claim. -/
theorem fifoOrder_holds : Rows.FifoOrderSaid :=
  OpenClaim.holds_of_wide 3 Try.f3 rfl rfl rfl rfl rfl rfl rfl ⟨rfl, rfl, rfl, rfl, rfl⟩ rfl rfl rfl rfl rfl (by kernel_rfl) Try.func3 (by kernel_rfl)
    (of_decide_eq_true (by kernel_rfl)) (by unfold Func.isWrapper; first | (rw [if_pos (by decide +kernel)]; kernel_rfl) | (rw [if_neg (by decide +kernel)]; exact ⟨rfl, rfl⟩))
    (fun os started H enc _ => Fifo.order_lifted os started H enc)
#print axioms fifoOrder_holds
end Go.Proofs.Ytlegnngelbneaaa
