/- The document's scheduler: the member that is visited. Conditions: none beyond each lemma's own hypotheses. -/
import Derived.Test.YtliepgmjpbjhfaaFgDrrRef03
set_option linter.unusedVariables false
set_option linter.unusedSimpArgs false
namespace Go.Proofs.Ytliepgmjpbjhfaa.Drr
open Go.RowKit Go.Proofs.Ytliepgmjpbjhfaa.Fg Go.Shelf Go.Maps

theorem head_at {s : Sc} (hs : s.ok) {x : Int} {r : List Int} (h : s.act = x :: r) : ∃ m, s.head = some m ∧ m.who = x ∧ fnd s.ms x = some m ∧ m.ok := by
  obtain ⟨m, hm⟩ := hs.there x (by rw [h]; simp)
  exact ⟨m, by unfold Sc.head; rw [h]; exact hm, fnd_who hm, hm, hs.each m (fnd_mem hm)⟩
theorem act_one {w : World} {A : Option Addr} {c : Nat} {x : Int} {r : List Int} (h : w.ownsRow 0 3 1 (.slice A (r.length + 1) c) (r.length + 1) (iv (x :: r))) :
    ∃ g, A = some ⟨g, 0, none⟩ ∧ w.cell? ⟨g, 0, none⟩ = some (.int .i64 x) ∧ g < w.heap.size ∧ r.length + 1 ≤ c := by
  obtain ⟨A', c', he, h1, h2, h3, h4⟩ := own_form h
  injection he with he _ hcc
  subst he hcc
  cases A with
  | none => have := (h3 rfl).1; omega
  | some ad =>
    obtain ⟨g, rfl, hg⟩ := h4 ad rfl
    exact ⟨g, rfl, hg 0 _ rfl, (h.lt g rfl).2, h1⟩
def visI (s : Sc) : Int := match s.fv with | none => -1 | some m => plc s.ms m.who
theorem one_box (w : World) (a : Array Value) (t : TypeId) : ∃ w1, w.alloc (.cells a t) = w1 ∧ Below w.heap.size w w1 ∧ w1.heap[w.heap.size]? = some (.cells a t (0, 0)) ∧ w1.heap.size = w.heap.size + 1 :=
  ⟨_, rfl, (Below.refl _ _).alloc (Nat.le_refl _) _, heap_alloc_at w _, by simp⟩
set_option maxRecDepth 100000 in
set_option maxHeartbeats 2000000 in
theorem visited_any {w : World} {A1 A2 : Option Addr} {c1 c2 : Nat} {s : Sc} (h : RF w A1 c1 A2 c2 s) (hs : s.ok) :
    Calls Try.prog 39 #[.agg #[.slice A1 s.ms.length c1, .slice A2 s.act.length c2]] w fun e w' => e = .returned (.int .i64 (visI s)) ∧ Below w.heap.size w w' := by
  have HH := Lib.hid h
  obtain ⟨w1, hw1, hB, h0, hz⟩ := one_box w #[.slice A1 s.ms.length c1, .slice A2 s.act.length c2] 48
  have B1 := Lib.hid hB
  have HW := Lib.hid hw1
  have x0 : w1.cell? ⟨w.heap.size, 0, none⟩ = some (.slice A1 s.ms.length c1) := cell_of_block h0 0
  have x1 : w1.cell? ⟨w.heap.size, 1, none⟩ = some (.slice A2 s.act.length c2) := cell_of_block h0 1
  have few := hs.few
  cases ha : s.act with
  | nil =>
    have V : Hid (visI s = -1) := Lib.hid (by unfold visI Sc.fv Sc.head; rw [ha])
    simp only [ha, List.length_nil] at *
    clear hw1 hB h0 hz h hs
    go_enter Try.func39, Try.ntmps39
    go_upto_region 1 with fail
    rw [HW.out]
    go_wp2_with fail
    go_ret
    exact ⟨by rw [V.out]; rfl, B1.out⟩
  | cons x r =>
    obtain ⟨m, hhd, hmw, hfm, hmo⟩ := head_at hs ha
    obtain ⟨i, hpl, hmi, hil⟩ := plc_some hfm
    have r2 := h.r2
    rw [ha] at r2
    obtain ⟨g2, rfl, hg2, hgl2, hcap⟩ := act_one r2
    obtain ⟨g1, rfl, hr1, hgl1⟩ := mrow_at h.r1 hmi
    have V : Hid (visI s = if m.vis then (i : Int) else -1) := Lib.hid (by
      unfold visI Sc.fv
      rw [hhd]
      cases hv : m.vis <;> simp [hv, hmw, hpl])
    have x2 : w1.cell? ⟨g2, 0, none⟩ = some (.int .i64 x) := (hB.cell (p := ⟨g2, 0, none⟩) hgl2).trans hg2
    have HM : Hid (w.cell? ⟨g1, i * 4 + 3, none⟩ = some (.bool m.vis)) := Lib.hid (hr1 3 _ rfl)
    have HG1 := Lib.hid hgl1
    have HP : Hid (∀ w', Below w.heap.size w w' → Calls Try.prog 35 #[.agg #[.slice (some ⟨g1, 0, none⟩) s.ms.length c1, .slice (some ⟨g2, 0, none⟩) (r.length + 1) c2], .int .i64 x] w' fun e w2 => e = .returned (.int .i64 i) ∧ Below w'.heap.size w' w2) := Lib.hid (fun w' hb => by
      refine (place_any (own_same HH.out.r1 fun k hk => hb.block k (HH.out.r1.lt k hk).2) x).mono ?_
      rintro e w2 ⟨rfl, hb2⟩
      exact ⟨by rw [hpl], hb2⟩)
    have HC : Hid (∀ w2, Below w1.heap.size w1.drew w2 → (w2.cell? ⟨w.heap.size, 0, none⟩ = some (.slice (some ⟨g1, 0, none⟩) s.ms.length c1) ∧ w2.cell? ⟨w.heap.size, 1, none⟩ = some (.slice (some ⟨g2, 0, none⟩) s.act.length c2) ∧ w2.cell? ⟨g2, 0, none⟩ = some (.int .i64 x)) ∧ w2.cell? ⟨g1, i * 4 + 3, none⟩ = some (.bool m.vis) ∧ Below w.heap.size w w2) := Lib.hid (fun w2 hb2 => by
      have hb3 : Below w1.heap.size w1 w2 := ⟨hb2.os, hb2.tape, hb2.output, hb2.size, hb2.block⟩
      exact ⟨⟨(hb3.cell (p := ⟨w.heap.size, 0, none⟩) (by show w.heap.size < w1.heap.size; omega)).trans x0, (hb3.cell (p := ⟨w.heap.size, 1, none⟩) (by show w.heap.size < w1.heap.size; omega)).trans x1, (hb3.cell (p := ⟨g2, 0, none⟩) (by show g2 < w1.heap.size; omega)).trans x2⟩, (hb3.cell (p := ⟨g1, i * 4 + 3, none⟩) (by show g1 < w1.heap.size; omega)).trans ((hB.cell (p := ⟨g1, i * 4 + 3, none⟩) hgl1).trans HM.out), hB.trans (hb3.mono (by omega))⟩)
    simp only [ha, List.length_cons] at *
    have hic : (i : Int) < s.ms.length := by omega
    have hb : ((r.length : Int) + 1 == 0) = false := by simp; omega
    have hb2 : ((r.length : Int) + 1 ≤ c2) := by omega
    have hrl : (0 : Int) < (r.length : Int) + 1 := by omega
    clear hw1 hB h0 hz h hs hhd hmw hfm hmo hpl hmi hil r2 hg2 hgl2 hr1 hgl1 ha hcap
    go_enter Try.func39, Try.ntmps39
    go_upto_region 1 with fail
    rw [HW.out]
    go_upto_region 3 with fail
    go_region_held3 (fun w' => w'.cell? ⟨w.heap.size, 0, none⟩ = some (.slice (some ⟨g1, 0, none⟩) s.ms.length c1) ∧ w'.cell? ⟨w.heap.size, 1, none⟩ = some (.slice (some ⟨g2, 0, none⟩) (r.length + 1) c2) ∧ w'.cell? ⟨g2, 0, none⟩ = some (.int .i64 x)) (first | exact ⟨x0, x1, x2⟩ | exact QS.out)
      ((go_at_call 35; refine (HP.out _ (below_dr B1.out)).mono ?_; rintro e w4 ⟨rfl, hb4⟩; have B4 := HC.out w4 hb4; have QS := Lib.hid B4.1; have QV := B4.2.1; have QB := Lib.hid B4.2.2; clear hb4 B4))
    obtain ⟨y0, y1, y2⟩ := QS.out
    clear x0 x1 x2 HC HP
    cases hv : m.vis with
    | false =>
      rw [hv] at QV V
      go_wp2_with fail
      go_ret
      exact ⟨by rw [V.out]; rfl, QB.out⟩
    | true =>
      rw [hv] at QV V
      go_wp2_with fail
      go_ret
      exact ⟨by rw [V.out]; rfl, QB.out⟩
end Go.Proofs.Ytliepgmjpbjhfaa.Drr
