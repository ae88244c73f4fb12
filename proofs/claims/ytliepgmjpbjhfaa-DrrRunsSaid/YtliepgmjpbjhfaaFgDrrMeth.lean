/- Contracts of the scheduler's own functions. Conditions: none beyond each lemma's own hypotheses. -/
import Derived.Test.YtliepgmjpbjhfaaFgDrrFun
import Derived.Deep.RegionHeld3
import Derived.Deep.DeepCutAuto
import Derived.Deep.CutBlock
import Derived.Deep.QuietTactic
import Derived.Lib.Hide
set_option linter.unusedVariables false
set_option linter.unusedSimpArgs false
namespace Go.Proofs.Ytliepgmjpbjhfaa.Drr
open Go.RowKit Go.Proofs.Ytliepgmjpbjhfaa.Fg Go.Shelf Go.Maps

theorem keyed : Keyed Try.prog 3 := int_keyed Try.underlying3
theorem look {w : World} {sb mb : Nat} {D : DataW Unit} {bl : Int → Nat} {va : Value} {s : Sc} {F : Nat → Prop} (h : IsS w sb mb D bl va s F) (x : Int) (hx : (Lit.int .i64 x).wf = true) :
    (∀ m, fnd s.ms x = some m → (Instr.lookup 61 (.map (some mb)) (.int .i64 x) true).run Try.prog w = .ok (.tuple #[.pointer (some ⟨bl x, 0, none⟩), .bool true]) w ∧
      (Instr.lookup 61 (.map (some mb)) (.int .i64 x) false).run Try.prog w = .ok (.pointer (some ⟨bl x, 0, none⟩)) w) ∧
    (fnd s.ms x = none → (Instr.lookup 61 (.map (some mb)) (.int .i64 x) true).run Try.prog w = .ok (.tuple #[.pointer none, .bool false]) w) := by
  have hz : (zeroValue 64).run Try.prog w = .ok (.pointer none) w := by kernel_rfl
  have hk := keyOf_int_mk (P := Try.prog) Try.underlying3 hx
  obtain ⟨v, ps, h1, h2⟩ := h.map.look_ok keyed Try.underlying61 hz (zd := .nil) (zp := []) rfl hk
  obtain ⟨v', ps', h3, h4⟩ := h.map.lookup keyed Try.underlying61 hz (zd := .nil) (zp := []) rfl hk
  refine ⟨fun m hm => ?_, fun hn => ?_⟩
  · obtain ⟨e1, e2⟩ := h.mapIs.one x m hm
    rw [show D.atKey (.int .i64 x) .nil = _ from e2 .nil] at h2 h4
    rw [show has D (.int .i64 x) = true from e1] at h1
    rw [rdp_lit h2] at h1
    rw [rdp_lit h4] at h3
    exact ⟨h1, h3⟩
  · obtain ⟨e1, e2⟩ := h.mapIs.no x hn
    rw [show D.atKey (.int .i64 x) .nil = _ from e2 .nil] at h2
    rw [show has D (.int .i64 x) = false from e1] at h1
    rw [rdp_nil h2] at h1
    exact h1
theorem look_len {w : World} {sb mb : Nat} {D : DataW Unit} {bl : Int → Nat} {va : Value} {s : Sc} {F : Nat → Prop} (h : IsS w sb mb D bl va s F) (ty : TypeId) :
    (Builtin.len_ #[61] ty #[.map (some mb)]).run Try.prog w = .ok (.int .i64 s.ms.length) w := by
  rw [← h.mapIs.size]
  exact h.map.len Try.underlying61 ty

set_option maxRecDepth 100000 in
theorem new_any (w : World) : Calls Try.prog 9 #[] w fun e w' => ∃ sb F, e = .returned (.pointer (some ⟨sb, 0, none⟩)) ∧ IsSc w' sb Sc.new F ∧ Below w.heap.size w w' ∧ ∀ k, F k → w.heap.size ≤ k := by
  have fin : IsSc ((w.alloc (.map #[] 0)).alloc (.cells #[.map (some w.heap.size), .slice none 0 0] 63)) (w.heap.size + 1) Sc.new (fun k => k = w.heap.size ∨ k = w.heap.size + 1) := by
    refine ⟨w.heap.size, .map [], fun _ => 0, .slice none 0 0, ?_, ?_, ⟨(fun x m hm => by cases hm), (fun x _ => ⟨rfl, fun _ => rfl⟩), rfl⟩, (fun m hm => by cases hm), (fun m hm => by cases hm), (fun m hm => by cases hm), World.ownsRow_nil _ _ _ _, (fun k hk => by cases hk), ⟨.inr rfl, .inl rfl, by omega⟩, fun k hk => ?_, Sc.new_ok⟩
    · have := heap_alloc_at (w.alloc (.map #[] 0)) (.cells #[.map (some w.heap.size), .slice none 0 0] 63)
      simpa using this
    · exact (World.ownsMap_made w _ _ _).alloc _
    · simp; omega
  have HF := Lib.hid fin
  have HB : Hid (Below w.heap.size w ((w.alloc (.map #[] 0)).alloc (.cells #[.map (some w.heap.size), .slice none 0 0] 63))) := Lib.hid (((Below.refl _ _).alloc (Nat.le_refl _) _).alloc (by simp) _)
  have hmk : (Instr.makeMap 61 none).run Try.prog w = .ok (.map (some w.heap.size)) (w.alloc (.map #[] 0)) := rfl
  clear fin
  go_enter Try.func9, Try.ntmps9
  go_wp2_with fail
  go_ret
  exact ⟨_, _, rfl, HF.out, HB.out, fun k hk => by omega⟩

/-- What a scheduler's cells hold. -/
theorem IsS.cells {w : World} {sb mb : Nat} {D : DataW Unit} {bl : Int → Nat} {va : Value} {s : Sc} {F : Nat → Prop} (h : IsS w sb mb D bl va s F) :
    w.cell? ⟨sb, 0, none⟩ = some (.map (some mb)) ∧ w.cell? ⟨sb, 1, none⟩ = some va ∧ w.frozen? ⟨sb, 1, none⟩ = false := ⟨cell_of_block h.head 0, cell_of_block h.head 1, free_of_block h.head 1⟩
theorem IsS.mcell {w : World} {sb mb : Nat} {D : DataW Unit} {bl : Int → Nat} {va : Value} {s : Sc} {F : Nat → Prop} (h : IsS w sb mb D bl va s F) {x : Int} {m : Mb} (hm : fnd s.ms x = some m) :
    w.cell? ⟨bl x, 0, none⟩ = some (.int .u64 m.q) ∧ w.cell? ⟨bl x, 1, none⟩ = some (.int .u64 m.df) ∧ w.cell? ⟨bl x, 2, none⟩ = some (.bool m.vis) ∧ ∀ i, w.frozen? ⟨bl x, i, none⟩ = false := by
  have := h.mem m (fnd_mem hm)
  rw [fnd_who hm] at this
  exact ⟨cell_of_block this 0, cell_of_block this 1, cell_of_block this 2, fun i => free_of_block this i⟩
theorem IsS.first {w : World} {sb mb : Nat} {D : DataW Unit} {bl : Int → Nat} {va : Value} {s : Sc} {F : Nat → Prop} (h : IsS w sb mb D bl va s F) {x : Int} {r : List Int} (ha : s.act = x :: r) :
    ∃ g c, va = .slice (some ⟨g, 0, none⟩) (r.length + 1) c ∧ w.cell? ⟨g, 0, none⟩ = some (.int .i64 x) ∧ r.length + 1 ≤ c ∧ c ≤ maxLen ∧ F g ∧ g < w.heap.size := by
  obtain ⟨A, c, rfl, h1, h2, h3, h4⟩ := own_form h.act
  cases A with
  | none => have := (h3 rfl).1; rw [ha] at this; cases this
  | some ad =>
    obtain ⟨g, rfl, hg⟩ := h4 ad rfl
    refine ⟨g, c, by rw [ha]; rfl, hg 0 _ (by rw [ha]; rfl), by rw [ha] at h1; exact h1, h2, (h.actF g rfl).1, h.lt _ (h.actF g rfl).1⟩
theorem IsS.empty {w : World} {sb mb : Nat} {D : DataW Unit} {bl : Int → Nat} {va : Value} {s : Sc} {F : Nat → Prop} (h : IsS w sb mb D bl va s F) (ha : s.act = []) : ∃ A c, va = .slice A 0 c := by
  obtain ⟨A, c, rfl, -⟩ := own_form h.act
  rw [ha]; exact ⟨A, c, rfl⟩
set_option maxRecDepth 100000 in
theorem frontp_any {w : World} {sb mb : Nat} {D : DataW Unit} {bl : Int → Nat} {va : Value} {s : Sc} {F : Nat → Prop} (h : IsS w sb mb D bl va s F) :
    Calls Try.prog 30 #[.pointer (some ⟨sb, 0, none⟩)] w fun e w' => Below w.heap.size w w' ∧ e = .returned (.pointer (s.fv.map fun m => (⟨bl m.who, 0, none⟩ : Addr))) := by
  obtain ⟨c0, c1, -⟩ := h.cells
  rcases ha : s.act with _ | ⟨x, r⟩
  · obtain ⟨A, c, rfl⟩ := h.empty ha
    have hfv : s.fv = none := by unfold Sc.fv Sc.head; rw [ha]
    rw [hfv]
    clear h ha hfv
    go_enter Try.func30, Try.ntmps30
    go_wp2_with fail
    go_ret
    exact ⟨Below.refl _ _, rfl⟩
  · obtain ⟨m, hm⟩ := h.ok.there x (by rw [ha]; simp)
    have hwx := fnd_who hm
    have hok := h.ok.each m (fnd_mem hm)
    obtain ⟨g, c, rfl, c2, hc1, hc2, -, -⟩ := h.first ha
    have hd : IsS w.drew sb mb D bl _ s F := h.same fun k hk => rfl
    have L := ((look hd x (by rw [← hwx]; exact hok.wf)).1 m hm).2
    obtain ⟨q0, q1, q2, -⟩ := h.mcell hm
    have hhd : s.head = some m := by unfold Sc.head; rw [ha]; exact hm
    have d0 : w.drew.cell? ⟨sb, 0, none⟩ = some (.map (some mb)) := c0
    have d1 : w.drew.cell? ⟨sb, 1, none⟩ = some (.slice (some ⟨g, 0, none⟩) (r.length + 1) c) := c1
    have d2 : w.drew.cell? ⟨g, 0, none⟩ = some (.int .i64 x) := c2
    have HB : Hid (Below w.heap.size w w.drew) := Lib.hid (below_dr (Below.refl _ _))
    unfold maxLen at hc2
    cases hv : m.vis with
    | false =>
      have hfv : s.fv = none := by unfold Sc.fv; rw [hhd]; simp [hv]
      rw [hfv]
      rw [hv] at q2
      have p2 : w.drew.cell? ⟨bl x, 2, none⟩ = some (.bool false) := q2
      clear h ha hm hok hd hhd hfv q0 q1 q2
      go_enter Try.func30, Try.ntmps30
      go_upto_region 3 with fail
      go_region_held3 (fun w' => w'.cell? ⟨sb, 0, none⟩ = some (.map (some mb)) ∧ w'.cell? ⟨sb, 1, none⟩ = some (.slice (some ⟨g, 0, none⟩) (r.length + 1) c) ∧ w'.cell? ⟨g, 0, none⟩ = some (.int .i64 x) ∧ (Instr.lookup 61 (.map (some mb)) (.int .i64 x) false).run Try.prog w' = .ok (.pointer (some ⟨bl x, 0, none⟩)) w')
        (exact ⟨d0, d1, d2, L⟩) (fail)
      go_wp2_with fail
      go_ret
      exact ⟨HB.out, rfl⟩
    | true =>
      have hfv : s.fv = some m := by unfold Sc.fv; rw [hhd]; simp [hv]
      rw [hfv, Option.map_some, hwx]
      rw [hv] at q2
      have p2 : w.drew.cell? ⟨bl x, 2, none⟩ = some (.bool true) := q2
      clear h ha hm hok hd hhd hfv q0 q1 q2
      go_enter Try.func30, Try.ntmps30
      go_upto_region 3 with fail
      go_region_held3 (fun w' => w'.cell? ⟨sb, 0, none⟩ = some (.map (some mb)) ∧ w'.cell? ⟨sb, 1, none⟩ = some (.slice (some ⟨g, 0, none⟩) (r.length + 1) c) ∧ w'.cell? ⟨g, 0, none⟩ = some (.int .i64 x) ∧ (Instr.lookup 61 (.map (some mb)) (.int .i64 x) false).run Try.prog w' = .ok (.pointer (some ⟨bl x, 0, none⟩)) w')
        (exact ⟨d0, d1, d2, L⟩) (fail)
      go_wp2_with fail
      go_ret
      exact ⟨HB.out, rfl⟩
end Go.Proofs.Ytliepgmjpbjhfaa.Drr
