/- The laws FifoRound and FifoNames of floodgate's fifo layer: a line that was used and cleared is as a new one; the error and the limit have their numbers. There are no conditions. -/
import Derived.Test.YtlegnngelbneaaaFgFifoAlive
namespace Go.Proofs.Ytlegnngelbneaaa.Fifo
open Go.RowKit Go.Proofs.Ytlegnngelbneaaa.Fg Go.ChangeShapes Go.WideShapes Go.ChangeAt

def pushE (ls : List (List Int)) (cap : Nat) : Int := if ls.length < cap then 0 else 191
def pushL (ls : List (List Int)) (cap : Nat) (l : List Int) : List (List Int) := if ls.length < cap then ls ++ [l] else ls
/-- What a Push leaves, let in or not. -/
def PushAny (w : World) (g lb cap : Nat) (ls : List (List Int)) (l : List Int) (F : Nat → Prop) (e : Ending) (w' : World) : Prop :=
  e = .returned (.int .i64 (pushE ls cap)) ∧ ∃ F', IsQ w' g lb cap (pushL ls cap l) F' ∧ Keep (fun k => k = g ∨ k = lb) w w' ∧ ∀ k, F' k → F k ∨ w.heap.size ≤ k
theorem push_any {w : World} {g lb cap : Nat} {ls : List (List Int)} {F : Nat → Prop} (h : IsQ w g lb cap ls F) (l : List Int) (A : Option Addr) (c : Nat) (hs : Src w A l.length c (bv l)) (hn : l.length ≤ 140737488355328) :
    Calls Try.prog 9 #[.pointer (some ⟨g, 0, none⟩), .slice A l.length c] w (PushAny w g lb cap ls l F) := by
  by_cases hm : ls.length < cap
  · refine (push_in h l A c hs hn hm).mono fun e w' ⟨h1, h2⟩ => ?_
    exact ⟨by unfold pushE; rw [if_pos hm]; exact h1, by unfold pushL; rw [if_pos hm]; exact h2⟩
  · refine (push_out h l A c hs hn (Nat.le_of_not_lt hm)).mono fun e w' ⟨h1, h2⟩ => ?_
    exact ⟨by unfold pushE; rw [if_neg hm]; exact h1, by unfold pushL; rw [if_neg hm]; exact h2⟩

def hd (ls : List (List Int)) : List Int := ls.headD []
/-- What a Pop leaves, whether there is something or not. -/
def PopAny (w : World) (g lb cap : Nat) (ls : List (List Int)) (F : Nat → Prop) (e : Ending) (w' : World) : Prop :=
  ∃ A c, e = .returned (.tuple #[.slice A (hd ls).length c, .bool (!ls.isEmpty)]) ∧ IsQ w' g lb cap ls.tail F ∧ Keep (fun k => k = g ∨ k = lb) w w' ∧ w'.ownsRow 0 5 1 (.slice A (hd ls).length c) (hd ls).length (bv (hd ls))
theorem pop_any {w : World} {g lb cap : Nat} {ls : List (List Int)} {F : Nat → Prop} (h : IsQ w g lb cap ls F) :
    Calls Try.prog 10 #[.pointer (some ⟨g, 0, none⟩)] w (PopAny w g lb cap ls F) := by
  cases ls with
  | nil =>
    refine (popq_none h).mono fun e w' ⟨h1, h2, h3⟩ => ?_
    exact ⟨none, 0, h1, h2, h3, World.ownsRow_nil _ _ _ _⟩
  | cons l ls =>
    refine (popq_some h).mono fun e w' ⟨A, c, h1, h2, h3, h4, _⟩ => ?_
    exact ⟨A, c, h1, h2, h3, h4⟩

theorem IsQ.in_F' {w : World} {g lb cap : Nat} {ls : List (List Int)} {F : Nat → Prop} (h : IsQ w g lb cap ls F) {k : Nat} (hk : k = g ∨ k = lb) : F k := by
  rcases hk with rfl | rfl
  · exact h.self
  · exact h.ex.choose_spec.choose_spec.2.2.2.1

/-- Two queues that share no memory. -/
structure Two (B g1 lb1 g2 lb2 cap cap2 : Nat) (W : World) (ls1 ls2 : List (List Int)) (F1 F2 : Nat → Prop) (w : World) : Prop where
  q1 : IsQ w g1 lb1 cap ls1 F1
  q2 : IsQ w g2 lb2 cap2 ls2 F2
  new1 : ∀ k, F1 k → B ≤ k
  new2 : ∀ k, F2 k → B ≤ k
  dis : ∀ k, F1 k → ¬ F2 k
  size : B ≤ W.heap.size
  below : Below B W w
section
variable {B g1 lb1 g2 lb2 cap cap2 : Nat} {W : World} {ls1 ls2 : List (List Int)} {F1 F2 : Nat → Prop} {w : World}
theorem Two.base (h : Two B g1 lb1 g2 lb2 cap cap2 W ls1 ls2 F1 F2 w) : B ≤ w.heap.size := by have := h.below.size; have := h.size; omega
theorem Two.alloc (h : Two B g1 lb1 g2 lb2 cap cap2 W ls1 ls2 F1 F2 w) (o : Obj) : Two B g1 lb1 g2 lb2 cap cap2 W ls1 ls2 F1 F2 (w.alloc o) :=
  ⟨isq_alloc h.q1 o, isq_alloc h.q2 o, h.new1, h.new2, h.dis, h.size, h.below.alloc h.base o⟩
theorem Two.drewN (h : Two B g1 lb1 g2 lb2 cap cap2 W ls1 ls2 F1 F2 w) (n : Nat) : Two B g1 lb1 g2 lb2 cap cap2 W ls1 ls2 F1 F2 (w.drewN n) :=
  ⟨h.q1.same (fun _ _ => rfl), h.q2.same (fun _ _ => rfl), h.new1, h.new2, h.dis, h.size, below_drewN h.below n⟩
theorem Two.first {w2 : World} {ls' : List (List Int)} {F' : Nat → Prop} (h : Two B g1 lb1 g2 lb2 cap cap2 W ls1 ls2 F1 F2 w) (hq : IsQ w2 g1 lb1 cap ls' F') (hk : Keep (fun k => k = g1 ∨ k = lb1) w w2) (hF : ∀ k, F' k → F1 k ∨ w.heap.size ≤ k) :
    Two B g1 lb1 g2 lb2 cap cap2 W ls' ls2 F' F2 w2 := by
  have hB := h.base
  refine ⟨hq, h.q2.keep hk (fun k h2 hi => h.dis k (h.q1.in_F' hi) h2), fun k hk' => ?_, h.new2, fun k hk' h2 => ?_, h.size, h.below.trans (hk.below hB (fun i hi => h.new1 i (h.q1.in_F' hi)))⟩
  · rcases hF k hk' with h4 | h4
    · exact h.new1 k h4
    · omega
  · rcases hF k hk' with h4 | h4
    · exact h.dis k h4 h2
    · have := h.q2.lt k h2; omega
theorem Two.second {w2 : World} {ls' : List (List Int)} {F' : Nat → Prop} (h : Two B g1 lb1 g2 lb2 cap cap2 W ls1 ls2 F1 F2 w) (hq : IsQ w2 g2 lb2 cap2 ls' F') (hk : Keep (fun k => k = g2 ∨ k = lb2) w w2) (hF : ∀ k, F' k → F2 k ∨ w.heap.size ≤ k) :
    Two B g1 lb1 g2 lb2 cap cap2 W ls1 ls' F1 F' w2 := by
  have hB := h.base
  refine ⟨h.q1.keep hk (fun k h1 hi => h.dis k h1 (h.q2.in_F' hi)), hq, h.new1, fun k hk' => ?_, fun k h1 hk' => ?_, h.size, h.below.trans (hk.below hB (fun i hi => h.new2 i (h.q2.in_F' hi)))⟩
  · rcases hF k hk' with h4 | h4
    · exact h.new2 k h4
    · omega
  · rcases hF k hk' with h4 | h4
    · exact h.dis k h1 h4
    · have := h.q1.lt k h1; omega
end

/-- A Push to the first queue, a Push to the second. -/
def Push1 (B g1 lb1 g2 lb2 cap cap2 : Nat) (W : World) (ls1 ls2 : List (List Int)) (l : List Int) (F2 : Nat → Prop) (w : World) (e : Ending) (w' : World) : Prop :=
  e = .returned (.int .i64 (pushE ls1 cap)) ∧ ∃ F', Two B g1 lb1 g2 lb2 cap cap2 W (pushL ls1 cap l) ls2 F' F2 w' ∧ Keep (fun k => k = g1 ∨ k = lb1) w w'
def Push2 (B g1 lb1 g2 lb2 cap cap2 : Nat) (W : World) (ls1 ls2 : List (List Int)) (l : List Int) (F1 : Nat → Prop) (w : World) (e : Ending) (w' : World) : Prop :=
  e = .returned (.int .i64 (pushE ls2 cap2)) ∧ ∃ F', Two B g1 lb1 g2 lb2 cap cap2 W ls1 (pushL ls2 cap2 l) F1 F' w' ∧ Keep (fun k => k = g2 ∨ k = lb2) w w'
theorem two_push1 {B g1 lb1 g2 lb2 cap cap2 : Nat} {W : World} {ls1 ls2 : List (List Int)} {F1 F2 : Nat → Prop} {w : World} (h : Two B g1 lb1 g2 lb2 cap cap2 W ls1 ls2 F1 F2 w) (l : List Int) (A : Option Addr) (c : Nat) (hs : Src w A l.length c (bv l)) (hn : l.length ≤ 140737488355328) :
    Calls Try.prog 9 #[.pointer (some ⟨g1, 0, none⟩), .slice A l.length c] w (Push1 B g1 lb1 g2 lb2 cap cap2 W ls1 ls2 l F2 w) :=
  (push_any h.q1 l A c hs hn).mono fun _ _ ⟨he, F', hq, hk, hF⟩ => ⟨he, F', h.first hq hk hF, hk⟩
theorem two_push2 {B g1 lb1 g2 lb2 cap cap2 : Nat} {W : World} {ls1 ls2 : List (List Int)} {F1 F2 : Nat → Prop} {w : World} (h : Two B g1 lb1 g2 lb2 cap cap2 W ls1 ls2 F1 F2 w) (l : List Int) (A : Option Addr) (c : Nat) (hs : Src w A l.length c (bv l)) (hn : l.length ≤ 140737488355328) :
    Calls Try.prog 9 #[.pointer (some ⟨g2, 0, none⟩), .slice A l.length c] w (Push2 B g1 lb1 g2 lb2 cap cap2 W ls1 ls2 l F1 w) :=
  (push_any h.q2 l A c hs hn).mono fun _ _ ⟨he, F', hq, hk, hF⟩ => ⟨he, F', h.second hq hk hF, hk⟩

def RRel (B g1 lb1 g2 lb2 cap : Nat) (W : World) (n : Nat) (i : Value) (w : World) : Prop := ∃ (j : Nat) (ls : List (List Int)) (F1 F2 : Nat → Prop), j ≤ n ∧ i = .int .i64 j ∧ Two B g1 lb1 g2 lb2 cap cap W ls ls F1 F2 w
def URel (B g1 lb1 g2 lb2 cap : Nat) (W : World) (n : Nat) (i : Value) (w : World) : Prop := ∃ (j : Nat) (ls : List (List Int)) (F1 F2 : Nat → Prop), j ≤ n ∧ i = .int .i64 j ∧ Two B g1 lb1 g2 lb2 cap cap W ls [] F1 F2 w

set_option maxRecDepth 100000 in
set_option maxHeartbeats 4000000 in
theorem round_any (most : Int) (A A0 : Option Addr) (c c0 : Nat) (front acts : List (Int × List Int)) (W : World) (hf : Acts W A0 front) (ha : Acts W A acts) (hrf : front.length ≤ reachBytes) (hr : acts.length ≤ reachBytes) :
    Calls Try.prog 5 #[.int .i64 most, .slice A0 front.length c0, .slice A acts.length c] W fun e w' => e = .returned (.bool true) ∧ Below W.heap.size W w' := by
  obtain ⟨cap, hcap⟩ : ∃ cap : Nat, (cap : Int) = if most < 0 then 0 else if 64 < most then 64 else most := by
    refine ⟨(if most < 0 then 0 else if 64 < most then 64 else most : Int).toNat, ?_⟩
    split
    · omega
    · split <;> omega
  have HCAP := Lib.hid hcap
  have HA := Lib.hid ha
  have HFR := Lib.hid hf
  have hr' : acts.length ≤ 140737488351232 := hr
  have hr2 : front.length ≤ 140737488351232 := hrf
  clear hcap ha hf hr hrf
  go_enter Try.func5, Try.ntmps5
  go_wp2_with fail
  refine (alive_any W).mono ?_
  rintro e w0 ⟨rfl, hb0⟩
  have HB0 := Lib.hid hb0
  clear hb0
  by_cases hlen0 : 200 < (front.length : Int)
  · go_wp2_with fail
    go_ret
    exact ⟨rfl, HB0.out⟩
  · by_cases hlen : 200 < (acts.length : Int)
    · go_wp2_with fail
      go_ret
      exact ⟨rfl, HB0.out⟩
    · go_wp2_with fail
      refine (newq most cap w0 HCAP.out).mono ?_
      rintro e w1 ⟨g1, lb1, F1, rfl, hq1, hb1, hF1⟩
      have HQ1 := Lib.hid hq1
      have HB1 := Lib.hid hb1
      have HF1 := Lib.hid hF1
      clear hq1 hb1 hF1
      go_wp2_with fail
      refine (newq most cap w1 HCAP.out).mono ?_
      rintro e w2 ⟨g2, lb2, F2, rfl, hq2, hb2, hF2⟩
      have HT : Hid (Two W.heap.size g1 lb1 g2 lb2 cap cap W [] [] F1 F2 w2) := by
        have s0 := HB0.out.size
        have s1 := HB1.out.size
        exact Lib.hid ⟨HQ1.out.same (fun k hk => hb2.block k (HQ1.out.lt k hk)), hq2, fun k hk => Nat.le_trans s0 (HF1.out k hk), fun k hk => by have := hF2 k hk; omega,
          fun k hk hk' => by have := hF2 k hk'; have := HQ1.out.lt k hk; omega, Nat.le_refl _, (HB0.out.trans (HB1.out.mono s0)).trans (hb2.mono (by omega))⟩
      clear hq2 hb2 hF2
      go_wp2_with fail
      go_loopw [34] (fun i wr => URel W.heap.size g1 lb1 g2 lb2 cap W front.length i wr) (fun i _ => front.length - (intOf i).toNat)
      case atStart => exact ⟨0, [], F1, F2, Nat.zero_le _, rfl, HT.out⟩
      case round =>
        obtain ⟨j, ls, G1, G2, hj, rfl, inv⟩ := hrel
        clear HT HQ1 HB1 HF1
        by_cases hlt : j < front.length
        · obtain ⟨⟨k, l⟩, hkl⟩ : ∃ q, front[j]? = some q := ⟨_, List.getElem?_eq_getElem hlt⟩
          obtain ⟨b, o, A', c', rfl, hc0, hc1, hsrc, hll, -⟩ := (HFR.out.below (inv.below)).at_ j k l hkl
          have inv2 := inv.alloc (.cells #[.int .i64 k, .slice A' l.length c'] 29)
          have src2 : Src (wr.alloc (.cells #[.int .i64 k, .slice A' l.length c'] 29)) A' l.length c' (bv l) := hsrc.same fun ad had hne => heap_alloc_old _ _ (hsrc.lt had hne)
          have hll' : l.length ≤ 140737488355328 := hll
          have HV2 := Lib.hid inv2
          have HS2 := Lib.hid src2
          clear inv inv2 hsrc src2 hkl hll
          by_cases hk0 : k = 0
          · subst hk0
            go_wp2_with fail
            refine (push_any HV2.out.q1 l A' c' HS2.out hll').mono ?_
            rintro e w3 ⟨rfl, F', hq, hk, hF⟩
            have HI := Lib.hid (HV2.out.first hq hk hF)
            clear hq hk hF
            go_wp2_with fail
            go_roundw
            case rel => exact ⟨j + 1, _, _, _, by omega, by go_num, HI.out⟩
            case measure => simp [intOf]; omega
          · have hkb : (k == 0) = false := by rw [beq_eq_false_iff_ne]; exact hk0
            clear hk0
            go_wp2_with fail
            refine (pop_any HV2.out.q1).mono ?_
            rintro e w3 ⟨A3, c3, rfl, hq, hk, -⟩
            have HI := Lib.hid (HV2.out.first hq hk (fun k hk => .inl hk))
            clear hq hk
            go_wp2_with fail
            go_roundw
            case rel => exact ⟨j + 1, _, _, _, by omega, by go_num, HI.out⟩
            case measure => simp [intOf]; omega
        · have HV := Lib.hid inv
          clear inv
          go_wp2_with fail
          refine (len_any HV.out.q1).mono ?_
          rintro e w3 ⟨rfl, rfl⟩
          go_wp2_with fail
          refine (clearq HV.out.q1).mono ?_
          rintro e w3 ⟨rfl, hq, hk⟩
          have HT := Lib.hid (HV.out.first hq hk (fun k hk => .inl hk))
          clear hq hk
          go_wp2_with fail
          go_loopw [56] (fun i wr => RRel W.heap.size g1 lb1 g2 lb2 cap W acts.length i wr) (fun i _ => acts.length - (intOf i).toNat)
          case atStart => exact ⟨0, [], _, _, Nat.zero_le _, rfl, HT.out⟩
          case round =>
            obtain ⟨j, ls, G1, G2, hj, rfl, inv⟩ := hrel
            clear HT HV
            by_cases hlt : j < acts.length
            · obtain ⟨⟨k, l⟩, hkl⟩ : ∃ q, acts[j]? = some q := ⟨_, List.getElem?_eq_getElem hlt⟩
              obtain ⟨b, o, A', c', rfl, hc0', hc1', hsrc0, hll, hbl, -⟩ := HA.out.at_ j k l hkl
              have hc0 := (inv.below.cell (p := ⟨b, o + j * 2, none⟩) hbl).trans hc0'
              have hc1 := (inv.below.cell (p := ⟨b, o + j * 2 + 1, none⟩) hbl).trans hc1'
              have HS0 := Lib.hid hsrc0
              clear hsrc0 hc0' hc1'
              have n1 := inv.q1.lts
              have n2 := inv.q2.lts
              have inv2 := inv.alloc (.cells #[.int .i64 k, .slice A' l.length c'] 29)
              have src2 : Src (wr.alloc (.cells #[.int .i64 k, .slice A' l.length c'] 29)) A' l.length c' (bv l) := HS0.out.same fun ad had hne => inv2.below.block _ (HS0.out.lt had hne)
              have hll' : l.length ≤ 140737488355328 := hll
              have HV2 := Lib.hid inv2
              have HS2 := Lib.hid src2
              clear inv inv2 src2 hkl hll
              by_cases hk0 : k = 0
              · subst hk0
                go_wp2_with fail
                have hsz : wr.heap.size < (wr.alloc (.cells #[.int .i64 0, .slice A' l.length c'] 29)).heap.size := by simp
                have hne : ¬ (wr.heap.size = g1 ∨ wr.heap.size = lb1) := by omega
                have hne2 : ¬ (wr.heap.size = g2 ∨ wr.heap.size = lb2) := by omega
                have P1 := Lib.hid (fun m => two_push1 (HV2.out.drewN m) l A' c' (HS2.out.same (fun _ _ _ => rfl)) hll')
                have ccw : (wr.alloc (.cells #[.int .i64 0, .slice A' l.length c'] 29)).cell? ⟨wr.heap.size, 1, none⟩ = some (.slice A' l.length c') := by go_simp
                have CCW := Lib.hid ccw
                clear ccw
                go_region_held3 (fun w' => w'.cell? ⟨wr.heap.size, 1, none⟩ = some (.slice A' l.length c')) (first | go_keep | exact cc1 | exact cc2) ((first
                  | (go_at_call_of 9 (Value.pointer (some ⟨g1, 0, none⟩)); refine (P1.out 1).mono ?_; rintro e w3 ⟨rfl, F', HI, hk⟩; have cc1 := (hk.cell (p := ⟨wr.heap.size, 1, none⟩) hsz hne).trans CCW.out; have HI3 := Lib.hid HI; have HK3 := Lib.hid hk; clear HI hk)
                  | (go_at_call_of 9 (Value.pointer (some ⟨g2, 0, none⟩)); refine (two_push2 HI3.out l A' c' (HS0.out.same fun ad had hne => HI3.out.below.block _ (HS0.out.lt had hne)) hll').mono ?_; rintro e w4 ⟨rfl, F'', HI, hk⟩; have cc2 := (hk.cell (p := ⟨wr.heap.size, 1, none⟩) (Nat.lt_of_lt_of_le hsz HK3.out.size) hne2).trans cc1; have HI4 := Lib.hid HI; clear HI hk)))
                go_wp2_with fail
                go_roundw
                case rel => exact ⟨j + 1, _, _, _, by omega, by go_num, HI4.out⟩
                case measure => simp [intOf]; omega
              · have hkb : (k == 0) = false := by rw [beq_eq_false_iff_ne]; exact hk0
                clear hk0
                go_wp2_with fail
                refine (pop_any HV2.out.q1).mono ?_
                rintro e w3 ⟨A3, c3, rfl, hq, hk, ho⟩
                have HI := Lib.hid (HV2.out.first hq hk (fun k hk => .inl hk))
                have HO := Lib.hid ho
                clear hq hk ho
                go_wp2_with fail
                refine (pop_any HI.out.q2).mono ?_
                rintro e w4 ⟨A4, c4, rfl, hq, hk, ho⟩
                have ho3 := own_keep HO.out hk (HI.out.q2.row_ne HO.out)
                have t3 := str_run _ _ _ _ (Src.of_own ho3)
                have t4 := str_run _ _ _ _ (Src.of_own ho)
                have HI2 := Lib.hid (HI.out.second hq hk (fun k hk => .inl hk))
                clear hq hk ho ho3
                go_wp2_with fail
                refine (bytes_any HI2.out.q1).mono ?_
                rintro e w5 ⟨rfl, rfl⟩
                go_wp2_with fail
                refine (bytes_any HI2.out.q2).mono ?_
                rintro e w5 ⟨rfl, rfl⟩
                go_wp2_with fail
                go_roundw
                case rel => exact ⟨j + 1, _, _, _, by omega, by go_num, HI2.out⟩
                case measure => simp [intOf]; omega
            · have HV := Lib.hid inv
              clear inv
              go_wp2_with fail
              refine (len_any HV.out.q1).mono ?_
              rintro e w5 ⟨rfl, rfl⟩
              go_wp2_with fail
              refine (len_any HV.out.q2).mono ?_
              rintro e w5 ⟨rfl, rfl⟩
              go_wp2_with fail
              go_ret
              exact ⟨rfl, HV.out.below⟩

set_option maxRecDepth 100000 in
theorem round_lifted (os : Os) (started : os.Started) (H : Type) (enc : TypeId × Value → H) :
    ReturnsInHanded {} Try.checked os 5 .any (Rows.fifoRoundSpec.pre6 enc Try.prog Try.f5 Rows.fifoRoundRow.domain false) (Rows.fifoRoundSpec.post enc Try.prog Try.f5 false true false false) := by
  refine law_lifted (C := Try.checked) laidOut own started (by kernel_rfl) Try.func5 rfl Try.underlying4 (by kernel_rfl) rfl
    (ChangeSpec.witness6 (enc := enc) (C := Try.checked) false ⟨#[], #[.int .i64 0, .slice none 0 0, .slice none 0 0], []⟩ 8 (by kernel_rfl) (by kernel_rfl) (by kernel_rfl) (by kernel_rfl)) ?_
  intro W base args ds p hval0 hA0 _ hsz0
  have hval : ∀ (j : Nat) t v, Try.f5.params[j]? = some t → args[j]? = some v → Value.okWide Try.prog W .any base t v := hval0
  have hA : DataW.TrodAll enc Try.prog W 0 (fun _ => true) true Try.f5.params.toList args ds p := hA0
  have hsz : (DataW.weightsEach Try.prog Try.f5.params.toList ds).all (· ≤ reachBytes) = true := hsz0
  rw [Try.params5] at hA hval hsz
  obtain ⟨v0, vs0, d0, ds0, p0, q0, rfl, rfl, rfl, h0, r0⟩ := trodAll_cons hA
  obtain ⟨v1, vs1, d1, ds1, p1, q1, rfl, rfl, rfl, h1, r1⟩ := trodAll_cons r0
  obtain ⟨v2, vs2, d2, ds2, p2, q2, rfl, rfl, rfl, h2, r2⟩ := trodAll_cons r1
  obtain ⟨rfl, rfl, rfl⟩ := trodAll_nil r2
  obtain ⟨most, rfl, rfl, rfl, wm⟩ := open_int Try.underlying3 (hval 0 _ v0 rfl rfl) h0
  obtain ⟨A0, c0, front, rfl, hc0, ha0, hr0⟩ := open_acts (hval 1 _ v1 rfl rfl) h1 (fun n hn => of_decide_eq_true (List.all_eq_true.1 hsz n (DataW.weights_mem_each (j := 1) rfl rfl n hn)))
  obtain ⟨A, c, acts, rfl, hc, ha, hr⟩ := open_acts (hval 2 _ v2 rfl rfl) h2 (fun n hn => of_decide_eq_true (List.all_eq_true.1 hsz n (DataW.weights_mem_each (j := 2) rfl rfl n hn)))
  exact ⟨rfl, round_any most A A0 c c0 front acts W ha0 ha hr0 hr⟩

def NRel (B g1 lb1 g2 lb2 : Nat) (W : World) (i : Value) (w : World) : Prop := ∃ (j : Nat) (ls : List (List Int)) (F1 F2 : Nat → Prop), j ≤ 64 ∧ ls.length = j ∧ tot ls = j ∧ i = .int .i64 j ∧ Two B g1 lb1 g2 lb2 64 0 W ls [] F1 F2 w
theorem src_nil (w : World) : Src w none 0 0 (bv []) := ⟨fun _ => ⟨rfl, rfl⟩, Nat.le_refl _, by simp [maxLen], fun _ h => by cases h⟩
set_option maxRecDepth 100000 in
set_option maxHeartbeats 2000000 in
theorem names_any (W : World) : Calls Try.prog 4 #[] W fun e w' => e = .returned (.bool true) ∧ Below W.heap.size W w' := by
  go_enter Try.func4, Try.ntmps4
  go_wp2_with fail
  refine (newq 1000 64 W (by decide)).mono ?_
  rintro e w1 ⟨g1, lb1, F1, rfl, hq1, hb1, hF1⟩
  have HQ1 := Lib.hid hq1
  have HB1 := Lib.hid hb1
  have HF1 := Lib.hid hF1
  clear hq1 hb1 hF1
  go_wp2_with fail
  refine (newq (-1) 0 w1 (by decide)).mono ?_
  rintro e w2 ⟨g2, lb2, F2, rfl, hq2, hb2, hF2⟩
  have HT : Hid (Two W.heap.size g1 lb1 g2 lb2 64 0 W [] [] F1 F2 w2) := by
    have s1 := HB1.out.size
    exact Lib.hid ⟨HQ1.out.same (fun k hk => hb2.block k (HQ1.out.lt k hk)), hq2, fun k hk => HF1.out k hk, fun k hk => by have := hF2 k hk; omega,
      fun k hk hk' => by have := hF2 k hk'; have := HQ1.out.lt k hk; omega, Nat.le_refl _, HB1.out.trans (hb2.mono s1)⟩
  clear hq2 hb2 hF2
  go_wp2_with fail
  go_loopw [3] (fun i wr => NRel W.heap.size g1 lb1 g2 lb2 W i wr) (fun i _ => 64 - (intOf i).toNat)
  case atStart => exact ⟨0, [], F1, F2, by omega, rfl, rfl, rfl, HT.out⟩
  case round =>
    obtain ⟨j, ls, G1, G2, hj, hjl, hjt, rfl, inv⟩ := hrel
    clear HT HQ1 HB1 HF1
    have HJ := Lib.hid hjl
    have HJT := Lib.hid hjt
    clear hjl hjt
    by_cases hlt : j < 64
    · have inv2 := inv.alloc (.cells #[.int .u8 (j : Int)] 5)
      have HV2 := Lib.hid inv2
      have hsrc : Src (wr.alloc (.cells #[.int .u8 (j : Int)] 5)) (some ⟨wr.heap.size, 0, none⟩) 1 1 (bv [(j : Int)]) := src_const wr [(j : Int)] (0, 0) (by simp [maxLen])
      have HS := Lib.hid hsrc
      clear inv inv2 hsrc
      go_wp2_with fail
      refine (two_push1 HV2.out [(j : Int)] _ 1 HS.out (by simp)).mono ?_
      rintro e w3 ⟨rfl, F', HI, -⟩
      have HI3 : Hid (Two W.heap.size g1 lb1 g2 lb2 64 0 W (ls ++ [[(j : Int)]]) [] F' G2 w3) := by
        unfold pushL at HI
        rw [if_pos (by rw [HJ.out]; omega)] at HI
        exact Lib.hid HI
      clear HI
      go_wp2_with fail
      go_roundw
      case rel => exact ⟨j + 1, _, _, _, by omega, by simp [HJ.out], by rw [tot_snoc, HJT.out]; simp, by go_num, HI3.out⟩
      case measure => simp [intOf]; omega
    · have hj64 : j = 64 := by omega
      subst hj64
      have HV := Lib.hid inv
      clear inv
      go_wp2_with fail
      refine (alive_any wr).mono ?_
      rintro e w3 ⟨rfl, hb⟩
      have HI3 : Hid (Two W.heap.size g1 lb1 g2 lb2 64 0 W ls [] G1 G2 w3) :=
        Lib.hid ⟨HV.out.q1.same (fun k hk => hb.block k (HV.out.q1.lt k hk)), HV.out.q2.same (fun k hk => hb.block k (HV.out.q2.lt k hk)), HV.out.new1, HV.out.new2, HV.out.dis, HV.out.size, HV.out.below.trans (hb.mono HV.out.base)⟩
      clear hb
      go_wp2_with fail
      refine (len_any HI3.out.q1).mono ?_
      rintro e w4 ⟨rfl, rfl⟩
      rw [HJ.out]
      go_wp2_with fail
      refine (two_push1 HI3.out [] none 0 (src_nil _) (by simp)).mono ?_
      rintro e w4 ⟨rfl, F', HI, -⟩
      have HI4 : Hid (Two W.heap.size g1 lb1 g2 lb2 64 0 W ls [] F' G2 w4) := by
        unfold pushL at HI
        rw [if_neg (by rw [HJ.out]; omega)] at HI
        exact Lib.hid HI
      clear HI
      have e1 : pushE ls 64 = 191 := by unfold pushE; rw [if_neg (by rw [HJ.out]; omega)]
      rw [e1]
      clear e1
      go_wp2_with fail
      refine (two_push2 HI4.out [] none 0 (src_nil _) (by simp)).mono ?_
      rintro e w5 ⟨rfl, F'', HI, -⟩
      have HI5 := Lib.hid HI
      clear HI
      have e1 : pushE [] 0 = 191 := rfl
      rw [e1]
      clear e1
      go_wp2_with fail
      refine (bytes_any HI5.out.q1).mono ?_
      rintro e w6 ⟨rfl, rfl⟩
      rw [HJT.out]
      go_wp2_with fail
      go_ret
      exact ⟨rfl, HI5.out.below⟩

set_option maxRecDepth 100000 in
theorem names_lifted (os : Os) (started : os.Started) (H : Type) (enc : TypeId × Value → H) :
    ReturnsInHanded {} Try.checked os 4 .any (Rows.fifoNamesSpec.pre6 enc Try.prog Try.f4 Rows.fifoNamesRow.domain false) (Rows.fifoNamesSpec.post enc Try.prog Try.f4 false true false false) := by
  refine law_lifted (C := Try.checked) laidOut own started (by kernel_rfl) Try.func4 rfl Try.underlying4 (by kernel_rfl) rfl
    (ChangeSpec.witness6 (enc := enc) (C := Try.checked) false ⟨#[], #[], []⟩ 8 (by kernel_rfl) (by kernel_rfl) (by kernel_rfl) (by kernel_rfl)) ?_
  intro W base args ds p hval0 hA0 _ _
  have hA : DataW.TrodAll enc Try.prog W 0 (fun _ => true) true Try.f4.params.toList args ds p := hA0
  rw [Try.params4] at hA
  obtain ⟨rfl, rfl, rfl⟩ := trodAll_nil hA
  exact ⟨rfl, names_any W⟩

end Go.Proofs.Ytlegnngelbneaaa.Fifo
namespace Go.Proofs.Ytlegnngelbneaaa
/-- The row, under a short name, for the claim. -/
theorem fifoNames_holds : Rows.FifoNamesSaid :=
  OpenClaim.holds_of_wide 4 Try.f4 rfl rfl rfl rfl rfl rfl rfl ⟨rfl, rfl, rfl, rfl, rfl⟩ rfl rfl rfl rfl rfl (by kernel_rfl) Try.func4 (by kernel_rfl)
    (of_decide_eq_true (by kernel_rfl)) (by unfold Func.isWrapper; first | (rw [if_pos (by decide +kernel)]; kernel_rfl) | (rw [if_neg (by decide +kernel)]; exact ⟨rfl, rfl⟩))
    (fun os started H enc _ => Fifo.names_lifted os started H enc)
#print axioms fifoNames_holds
/-- The row, under a short name, for the claim. -/
theorem fifoRound_holds : Rows.FifoRoundSaid :=
  OpenClaim.holds_of_wide 5 Try.f5 rfl rfl rfl rfl rfl rfl rfl ⟨rfl, rfl, rfl, rfl, rfl⟩ rfl rfl rfl rfl rfl (by kernel_rfl) Try.func5 (by kernel_rfl)
    (of_decide_eq_true (by kernel_rfl)) (by unfold Func.isWrapper; first | (rw [if_pos (by decide +kernel)]; kernel_rfl) | (rw [if_neg (by decide +kernel)]; exact ⟨rfl, rfl⟩))
    (fun os started H enc _ => Fifo.round_lifted os started H enc)
#print axioms fifoRound_holds
end Go.Proofs.Ytlegnngelbneaaa
