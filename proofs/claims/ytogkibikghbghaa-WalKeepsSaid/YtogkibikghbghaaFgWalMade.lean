/- Records in slices beside a log: those that were made, and whether two slices hold the same. Conditions: none beyond each lemma's own hypotheses. -/
import Derived.Test.YtogkibikghbghaaFgWalPay
import Derived.Test.YtogkibikghbghaaFgWalLaid
import Derived.ChangeSlices
set_option linter.unusedVariables false
set_option linter.unusedSimpArgs false
namespace Go.Proofs.Ytogkibikghbghaa.Wal
open Go.RowKit Go.Proofs.Ytogkibikghbghaa.Fg Go.Proofs.Ytogkibikghbghaa.Frame Go.Proofs.Ytogkibikghbghaa.Disk Go.Proofs.Ytogkibikghbghaa.Area Go.ChangeShapes Go.WideShapes Go.ChangeAt

/-- A slice of records, wherever it lies. -/
structure RecsAt (w : World) (A : Option Addr) (l : List ((Option Addr × Nat) × Rec)) : Prop where
  rows : RowsAt w A 3 (l.map recC)
  pays : ∀ x ∈ l, Fg.Src w x.1.1 x.2.pay.length x.1.2 (bv x.2.pay) ∧ Crc.Small x.2.pay
theorem RecsAt.below {w w' : World} {A : Option Addr} {l : List ((Option Addr × Nat) × Rec)} (h : RecsAt w A l) (hb : Below w.heap.size w w') : RecsAt w' A l :=
  ⟨h.rows.below hb, fun x hx => ⟨(h.pays x hx).1.same fun ad had hne => hb.block _ ((h.pays x hx).1.lt had hne), (h.pays x hx).2⟩⟩
theorem recC_3 (l : List ((Option Addr × Nat) × Rec)) : ∀ r ∈ l.map recC, r.length = 3 := fun r hr => by obtain ⟨x, -, rfl⟩ := List.mem_map.1 hr; rfl
theorem Recs.at_ {w : World} {B : Nat} {v : Value} {rs : List Rec} (h : Recs w B v rs) (hs : ∀ r ∈ rs, Crc.Small r.pay) : ∃ A c l, v = .slice A l.length c ∧ l.map Prod.snd = rs ∧ RecsAt w A l ∧ l.length ≤ c ∧ c ≤ maxLen := by
  obtain ⟨l, h1, h2, h3⟩ := h
  obtain ⟨A, c, rfl, h4, h5, -⟩ := own_form h2
  exact ⟨A, c, l, rfl, h1, ⟨RowsAt.of_own h2 (recC_3 l) (by decide), fun x hx => ⟨(h3 x hx).1, hs _ (by rw [← h1]; exact List.mem_map_of_mem hx)⟩⟩, h4, h5⟩

/-- Records that were made beside a log: none of their blocks is the log's or its disk's. -/
def MadeR (W w : World) (lb : Nat) (F : Nat → Prop) (v : Value) (rs : List Rec) : Prop :=
  ∃ l : List ((Option Addr × Nat) × Rec), l.map Prod.snd = rs ∧ w.ownsRow W.heap.size 40 3 v l.length (l.map recC).flatten ∧ (∀ b, v.ownBlock = some b → ¬ F b ∧ b ≠ lb) ∧
    ∀ x ∈ l, Fg.Src w x.1.1 x.2.pay.length x.1.2 (bv x.2.pay) ∧ ∀ ad, x.1.1 = some ad → bv x.2.pay ≠ [] → W.heap.size ≤ ad.block ∧ v.ownBlock ≠ some ad.block ∧ ¬ F ad.block ∧ ad.block ≠ lb
theorem MadeR.nil (W w : World) (lb : Nat) (F : Nat → Prop) : MadeR W w lb F (.slice none 0 0) [] := ⟨[], rfl, World.ownsRow_nil _ _ _ _, (fun b hb => by cases hb), fun _ h => by cases h⟩
theorem MadeR.turn {W w w' : World} {lb : Nat} {F F' : Nat → Prop} {v : Value} {rs : List Rec} (h : MadeR W w lb F v rs) (hk : Keep (fun k => F k ∨ k = lb) w w') (hF : ∀ k, F' k → F k ∨ w.heap.size ≤ k) : MadeR W w' lb F' v rs := by
  obtain ⟨l, h1, h2, h3, h4⟩ := h
  refine ⟨l, h1, own_same h2 fun k hk' => hk.block k (h2.lt k hk').2 (fun hs => hs.elim (h3 k hk').1 (h3 k hk').2), fun b hb => ⟨fun hf => (hF b hf).elim (h3 b hb).1 (fun hge => absurd (h2.lt b hb).2 (Nat.not_lt.2 hge)), (h3 b hb).2⟩, fun x hx => ?_⟩
  refine ⟨(h4 x hx).1.same fun ad had hne => hk.block _ ((h4 x hx).1.lt had hne) (fun hs => ?_), fun ad had hne => ?_⟩
  · obtain ⟨-, -, a3, a4⟩ := (h4 x hx).2 ad had hne
    exact hs.elim a3 a4
  · obtain ⟨a1, a2, a3, a4⟩ := (h4 x hx).2 ad had hne
    exact ⟨a1, a2, fun hf => (hF _ hf).elim a3 (fun hge => absurd ((h4 x hx).1.lt had hne) (Nat.not_lt.2 hge)), a4⟩
theorem MadeR.below {W w w' : World} {lb : Nat} {F : Nat → Prop} {v : Value} {rs : List Rec} (h : MadeR W w lb F v rs) (hb : Below w.heap.size w w') : MadeR W w' lb F v rs :=
  h.turn (Keep.of_new hb) (fun _ h => .inl h)
theorem MadeR.recs {W w : World} {lb : Nat} {F : Nat → Prop} {v : Value} {rs : List Rec} (h : MadeR W w lb F v rs) : Recs w W.heap.size v rs := by
  obtain ⟨l, h1, h2, h3, h4⟩ := h
  exact ⟨l, h1, h2, fun x hx => ⟨(h4 x hx).1, fun ad had hne => ⟨((h4 x hx).2 ad had hne).1, ((h4 x hx).2 ad had hne).2.1⟩⟩⟩
theorem MadeR.push {W w w' : World} {lb : Nat} {F : Nat → Prop} {v v' : Value} {l : List ((Option Addr × Nat) × Rec)} {r : Rec} {A : Option Addr} {c : Nat}
    (hv : ∀ b, v.ownBlock = some b → ¬ F b ∧ b ≠ lb)
    (h4 : ∀ x ∈ l, Fg.Src w x.1.1 x.2.pay.length x.1.2 (bv x.2.pay) ∧ ∀ ad, x.1.1 = some ad → bv x.2.pay ≠ [] → W.heap.size ≤ ad.block ∧ v.ownBlock ≠ some ad.block ∧ ¬ F ad.block ∧ ad.block ≠ lb)
    (hs : Fg.Src w A r.pay.length c (bv r.pay)) (hn : ∀ ad, A = some ad → bv r.pay ≠ [] → W.heap.size ≤ ad.block ∧ v.ownBlock ≠ some ad.block ∧ ¬ F ad.block ∧ ad.block ≠ lb)
    (hF : ∀ k, F k → k < w.heap.size) (hlb : lb < w.heap.size)
    (ho : w'.ownsRow W.heap.size 40 3 v' (l.length + 1) ((l.map recC).flatten ++ recC ((A, c), r)))
    (hg : w.grownBy w' v.ownBlock) (hat : v'.ownBlock = v.ownBlock ∨ v'.ownBlock = some w.heap.size) : MadeR W w' lb F v' (l.map Prod.snd ++ [r]) := by
  have key : ∀ (A : Option Addr) (c : Nat) (r : Rec), Fg.Src w A r.pay.length c (bv r.pay) → (∀ ad, A = some ad → bv r.pay ≠ [] → W.heap.size ≤ ad.block ∧ v.ownBlock ≠ some ad.block ∧ ¬ F ad.block ∧ ad.block ≠ lb) →
      Fg.Src w' A r.pay.length c (bv r.pay) ∧ ∀ ad, A = some ad → bv r.pay ≠ [] → W.heap.size ≤ ad.block ∧ v'.ownBlock ≠ some ad.block ∧ ¬ F ad.block ∧ ad.block ≠ lb := by
    intro A c r hs hn
    refine ⟨hs.same fun ad had hne => hg.block _ (hs.lt had hne) (fun e => (hn ad had hne).2.1 e.symm), fun ad had hne => ⟨(hn ad had hne).1, fun e => ?_, (hn ad had hne).2.2⟩⟩
    rcases hat with h | h
    · exact (hn ad had hne).2.1 (h.symm.trans e)
    · rw [h] at e
      injection e with e
      have := hs.lt had hne
      omega
  refine ⟨l ++ [((A, c), r)], by simp, by rw [List.map_append, List.flatten_append, List.length_append]; simpa using ho, fun b hb => ?_, fun x hx => ?_⟩
  · rcases hat with h | h
    · exact hv b (h.symm.trans hb)
    · rw [h] at hb
      injection hb with hb
      exact ⟨fun hf => absurd (hF b hf) (by omega), by omega⟩
  · rcases List.mem_append.1 hx with hx | hx
    · exact key _ _ _ (h4 x hx).1 (h4 x hx).2
    · rw [List.mem_singleton.1 hx]; exact key _ _ _ hs hn

set_option maxRecDepth 100000 in
set_option maxHeartbeats 4000000 in
theorem sameRecs_any {w : World} {A B : Option Addr} {c d : Nat} {la lb : List ((Option Addr × Nat) × Rec)} (ha : RecsAt w A la) (hb : RecsAt w B lb) (hca : la.length ≤ c) (hcm : c ≤ maxLen) (hcb : lb.length ≤ d) (hdm : d ≤ maxLen) :
    Calls Try.prog 21 #[.slice A la.length c, .slice B lb.length d] w fun e w' => e = .returned (.bool (decide (la.map Prod.snd = lb.map Prod.snd))) ∧ Below w.heap.size w w' := by
  have HA := Lib.hid ha
  have HB := Lib.hid hb
  have hm := hcm
  have hm2 := hdm
  unfold maxLen at hm hm2
  clear ha hb hcm hdm
  by_cases hl : la.length = lb.length
  · have hlb : ((la.length : Int) == (lb.length : Int)) = true := by simp [hl]
    obtain ⟨n, hn⟩ : ∃ n, la.length = n := ⟨_, rfl⟩
    have HN := Lib.hid hn
    have HM : Hid (lb.length = n) := Lib.hid (by omega)
    rw [hn] at hca ⊢
    rw [← hl, hn] at hcb ⊢
    clear hlb hl hn
    go_enter Try.func21, Try.ntmps21
    go_wp2_with fail
    go_loopg [13] n (fun k v wr => ∃ j : Nat, j + k = n ∧ v = .int .i64 j ∧ Below w.heap.size w wr ∧ (la.map Prod.snd).take j = (lb.map Prod.snd).take j)
    case atStart => exact ⟨0, Nat.zero_add _, rfl, Below.refl _ _, rfl⟩
    case round =>
      obtain ⟨j, hj, rfl, hbw, hsm⟩ := hrel
      have BW := Lib.hid hbw
      have SM := Lib.hid hsm
      clear hbw hsm
      by_cases hlt : j < n
      · obtain ⟨⟨⟨XA, xc⟩, x⟩, hx⟩ : ∃ x, la[j]? = some x := ⟨_, List.getElem?_eq_getElem (by rw [HN.out]; exact hlt)⟩
        obtain ⟨⟨⟨YA, yc⟩, y⟩, hy⟩ : ∃ x, lb[j]? = some x := ⟨_, List.getElem?_eq_getElem (by rw [HM.out]; exact hlt)⟩
        have RA := HA.out.below BW.out
        have RB := HB.out.below BW.out
        obtain ⟨p, rfl, hp, hrg⟩ := RA.rows j (recC ((XA, xc), x)) (by rw [List.getElem?_map, hx]; rfl)
        obtain ⟨q, rfl, hq, hrq⟩ := RB.rows j (recC ((YA, yc), y)) (by rw [List.getElem?_map, hy]; rfl)
        obtain ⟨sx, mx⟩ := RA.pays _ (List.mem_of_getElem? hx)
        obtain ⟨sy, my⟩ := RB.pays _ (List.mem_of_getElem? hy)
        have a0 : wr.cell? ⟨p, j * 3, none⟩ = some (.int .u64 x.seq) := hrg 0 _ rfl
        have a1 : wr.cell? ⟨p, j * 3 + 1, none⟩ = some (.int .u32 x.epoch) := hrg 1 _ rfl
        have a2 : wr.cell? ⟨p, j * 3 + 2, none⟩ = some (.slice XA x.pay.length xc) := hrg 2 _ rfl
        have b0 : wr.cell? ⟨q, j * 3, none⟩ = some (.int .u64 y.seq) := hrq 0 _ rfl
        have b1 : wr.cell? ⟨q, j * 3 + 1, none⟩ = some (.int .u32 y.epoch) := hrq 1 _ rfl
        have b2 : wr.cell? ⟨q, j * 3 + 2, none⟩ = some (.slice YA y.pay.length yc) := hrq 2 _ rfl
        have SA := Lib.hid (same_any x y XA YA xc yc wr.drew mx my (sx.same fun ad had hne => (Fg.below_dr (Below.refl _ _)).block _ (sx.lt had hne)) (sy.same fun ad had hne => (Fg.below_dr (Below.refl _ _)).block _ (sy.lt had hne)))
        unfold recv at SA
        have SX : Hid ((la.map Prod.snd)[j]? = some x ∧ (lb.map Prod.snd)[j]? = some y) := Lib.hid (by rw [List.getElem?_map, List.getElem?_map, hx, hy]; exact ⟨rfl, rfl⟩)
        have HP := Lib.hid hp
        have HQ := Lib.hid hq
        clear hrg hrq sx sy mx my RA RB hx hy hp hq
        have hjc : (j : Int) < n := by omega
        by_cases hxy : x = y
        · have SX2 : Hid ((la.map Prod.snd).take (j + 1) = (lb.map Prod.snd).take (j + 1)) := Lib.hid (by rw [List.take_add_one, List.take_add_one, SM.out, SX.out.1, SX.out.2, hxy])
          rw [decide_eq_true hxy] at SA
          clear hxy
          go_upto_region 6 with fail
          go_region_held3 (fun w' => w'.cell? ⟨p, j * 3, none⟩ = some (.int .u64 x.seq) ∧ w'.cell? ⟨p, j * 3 + 1, none⟩ = some (.int .u32 x.epoch) ∧ w'.cell? ⟨p, j * 3 + 2, none⟩ = some (.slice XA x.pay.length xc) ∧ w'.cell? ⟨q, j * 3, none⟩ = some (.int .u64 y.seq) ∧ w'.cell? ⟨q, j * 3 + 1, none⟩ = some (.int .u32 y.epoch) ∧ w'.cell? ⟨q, j * 3 + 2, none⟩ = some (.slice YA y.pay.length yc))
            (first | exact ⟨a0, a1, a2, b0, b1, b2⟩ | exact QS.out)
            ((go_at_call 18; refine SA.out.mono ?_; rintro e w7 ⟨rfl, hb7⟩; have B7 := Lib.hid hb7; clear hb7
              have QS := Lib.hid (And.intro ((B7.out.cell (p := ⟨p, j * 3, none⟩) HP.out).trans a0) (And.intro ((B7.out.cell (p := ⟨p, j * 3 + 1, none⟩) HP.out).trans a1) (And.intro ((B7.out.cell (p := ⟨p, j * 3 + 2, none⟩) HP.out).trans a2) (And.intro ((B7.out.cell (p := ⟨q, j * 3, none⟩) HQ.out).trans b0) (And.intro ((B7.out.cell (p := ⟨q, j * 3 + 1, none⟩) HQ.out).trans b1) ((B7.out.cell (p := ⟨q, j * 3 + 2, none⟩) HQ.out).trans b2))))))))
          go_wp2_with fail
          go_roundg (gk - 1)
          case measure => omega
          case rel => exact ⟨j + 1, by omega, by go_num, (Fg.below_dr BW.out).trans (B7.out.mono (Fg.below_dr BW.out).size), SX2.out⟩
        · have SX2 : Hid (decide (la.map Prod.snd = lb.map Prod.snd) = false) := Lib.hid (decide_eq_false (fun e => hxy (by
            have h1 := SX.out.1
            rw [e, SX.out.2] at h1
            injection h1 with h1
            exact h1.symm)))
          rw [decide_eq_false hxy] at SA
          clear hxy
          go_upto_region 6 with fail
          go_region_held3 (fun w' => w'.cell? ⟨p, j * 3, none⟩ = some (.int .u64 x.seq) ∧ w'.cell? ⟨p, j * 3 + 1, none⟩ = some (.int .u32 x.epoch) ∧ w'.cell? ⟨p, j * 3 + 2, none⟩ = some (.slice XA x.pay.length xc) ∧ w'.cell? ⟨q, j * 3, none⟩ = some (.int .u64 y.seq) ∧ w'.cell? ⟨q, j * 3 + 1, none⟩ = some (.int .u32 y.epoch) ∧ w'.cell? ⟨q, j * 3 + 2, none⟩ = some (.slice YA y.pay.length yc))
            (first | exact ⟨a0, a1, a2, b0, b1, b2⟩ | exact QS.out)
            ((go_at_call 18; refine SA.out.mono ?_; rintro e w7 ⟨rfl, hb7⟩; have B7 := Lib.hid hb7; clear hb7
              have QS := Lib.hid (And.intro ((B7.out.cell (p := ⟨p, j * 3, none⟩) HP.out).trans a0) (And.intro ((B7.out.cell (p := ⟨p, j * 3 + 1, none⟩) HP.out).trans a1) (And.intro ((B7.out.cell (p := ⟨p, j * 3 + 2, none⟩) HP.out).trans a2) (And.intro ((B7.out.cell (p := ⟨q, j * 3, none⟩) HQ.out).trans b0) (And.intro ((B7.out.cell (p := ⟨q, j * 3 + 1, none⟩) HQ.out).trans b1) ((B7.out.cell (p := ⟨q, j * 3 + 2, none⟩) HQ.out).trans b2))))))))
          go_wp2_with fail
          go_ret
          exact ⟨by rw [SX2.out]; rfl, (Fg.below_dr BW.out).trans (B7.out.mono (Fg.below_dr BW.out).size)⟩
      · have SX2 : Hid (decide (la.map Prod.snd = lb.map Prod.snd) = true) := Lib.hid (decide_eq_true (by
          have h := SM.out
          rwa [List.take_of_length_le (by rw [List.length_map, HN.out]; omega), List.take_of_length_le (by rw [List.length_map, HM.out]; omega)] at h))
        go_wp2_with fail
        go_ret
        exact ⟨by rw [SX2.out]; rfl, BW.out⟩
  · have SX2 : Hid (decide (la.map Prod.snd = lb.map Prod.snd) = false) := Lib.hid (decide_eq_false (fun e => hl (by have := congrArg List.length e; simpa using this)))
    have hlb : ((la.length : Int) == (lb.length : Int)) = false := by simp; omega
    go_enter Try.func21, Try.ntmps21
    go_wp2_with fail
    go_ret
    exact ⟨by rw [SX2.out]; rfl, Below.refl _ _⟩
end Go.Proofs.Ytogkibikghbghaa.Wal
