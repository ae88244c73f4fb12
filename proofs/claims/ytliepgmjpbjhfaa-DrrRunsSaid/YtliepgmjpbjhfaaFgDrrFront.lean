/- Contract of Front. Conditions: none beyond each lemma's own hypotheses. -/
import Derived.Test.YtliepgmjpbjhfaaFgDrrMeth
import Derived.Test.YtliepgmjpbjhfaaFgCut
set_option linter.unusedVariables false
set_option linter.unusedSimpArgs false
namespace Go.Proofs.Ytliepgmjpbjhfaa.Drr
open Go.RowKit Go.Proofs.Ytliepgmjpbjhfaa.Fg Go.Shelf Go.Maps

def Sc.frontV (s : Sc) : Value := match s.head with
  | none => .tuple #[.int .i64 0, .int .u64 0, .bool false]
  | some m => .tuple #[.int .i64 m.who, .int .u64 m.visit.df, .bool true]
theorem upd_self {ms : List Mb} {m : Mb} (hn : (ms.map Mb.who).Nodup) (hm : m ∈ ms) : upd ms m = ms := by
  unfold upd
  conv => rhs; rw [← List.map_id ms]
  apply List.map_congr_left
  intro y hy
  show (if y.who = m.who then m else y) = y
  split
  · rename_i e
    have h1 := fnd_of_mem hn hy
    have h2 := fnd_of_mem hn hm
    rw [e, h2] at h1
    injection h1
  · rfl
set_option maxRecDepth 100000 in
set_option maxHeartbeats 2000000 in
theorem front_any {w : World} {sb : Nat} {s : Sc} {F : Nat → Prop} (h : IsSc w sb s F) :
    Calls Try.prog 12 #[.pointer (some ⟨sb, 0, none⟩)] w fun e w' => e = .returned s.frontV ∧ Trn w sb s.front F w' := by
  obtain ⟨mb, D, bl, va, h⟩ := h
  obtain ⟨c0, c1, -⟩ := h.cells
  rcases ha : s.act with _ | ⟨x, r⟩
  · obtain ⟨A, c, rfl⟩ := h.empty ha
    have hhd : s.head = none := by unfold Sc.head; rw [ha]
    have T : Hid (Trn w sb s.front F w) := Lib.hid (by unfold Sc.front; rw [hhd]; exact Trn.refl ⟨_, _, _, _, h⟩)
    have V : Hid (s.frontV = .tuple #[.int .i64 0, .int .u64 0, .bool false]) := Lib.hid (by unfold Sc.frontV; rw [hhd])
    clear h ha hhd
    go_enter Try.func12, Try.ntmps12
    go_wp2_with fail
    exact bodyPost_ret (v := .tuple #[.int .i64 0, .int .u64 0, .bool false]) (by simp [results, Try.results12, go_sem]) rfl ⟨by rw [V.out], T.out⟩
  · obtain ⟨m, hm⟩ := h.ok.there x (by rw [ha]; simp)
    have hwx := fnd_who hm
    have hok := h.ok.each m (fnd_mem hm)
    obtain ⟨g, c, rfl, c2, hc1, hc2, hg1, hg2⟩ := h.first ha
    have hd : IsS w.drew sb mb D bl _ s F := h.same fun k hk => rfl
    have HD := Lib.hid hd
    have L := ((look hd x (by rw [← hwx]; exact hok.wf)).1 m hm).2
    obtain ⟨q0, q1, q2, qf⟩ := h.mcell hm
    have hhd : s.head = some m := by unfold Sc.head; rw [ha]; exact hm
    have d0 : w.drew.cell? ⟨sb, 0, none⟩ = some (.map (some mb)) := c0
    have d1 : w.drew.cell? ⟨sb, 1, none⟩ = some (.slice (some ⟨g, 0, none⟩) (r.length + 1) c) := c1
    have d2 : w.drew.cell? ⟨g, 0, none⟩ = some (.int .i64 x) := c2
    have hg3 : bl x ≠ g := fun e => (h.actF g rfl).2.2.2 m (fnd_mem hm) (by rw [hwx]; exact e.symm)
    have HG3 := Lib.hid hg3
    have HWX := Lib.hid hwx
    have HM := Lib.hid hm
    have HMH : Hid (w.heap[bl x]? = some (.cells (mcells m) 67 (0, 0))) := Lib.hid (by have := h.mem m (fnd_mem hm); rw [hwx] at this; exact this)
    have HFX : Hid (F (bl x) ∧ bl x ≠ sb ∧ bl x ≠ mb) := Lib.hid (by have := h.memF m (fnd_mem hm); rw [hwx] at this; exact this)
    have HOK := Lib.hid hok
    have HGL := Lib.hid hg2
    have HC2 := Lib.hid c2
    unfold maxLen at hc2
    cases hv : m.vis with
    | true =>
      have hvis : m.visit = m := by unfold Mb.visit; rw [if_pos hv]
      have T : Hid (∀ w', (∀ k, w'.heap[k]? = w.heap[k]?) → Keep F w w' → Trn w sb s.front F w') := Lib.hid (fun w' hh hk => by
        have e : s.front = s := by
          unfold Sc.front
          rw [hhd]
          simp only
          rw [hvis, upd_self h.ok.apart (fnd_mem hm)]
        rw [e]
        exact ⟨F, ⟨_, _, _, _, h.same fun k _ => hh k⟩, hk, fun _ hk => .inl hk⟩)
      have V : Hid (s.frontV = .tuple #[.int .i64 x, .int .u64 m.df, .bool true]) := Lib.hid (by unfold Sc.frontV; rw [hhd]; simp only; rw [hvis, hwx])
      rw [hv] at q2
      have p2 : w.drew.cell? ⟨bl x, 2, none⟩ = some (.bool true) := q2
      have e1 : w.drew.drew.cell? ⟨bl x, 1, none⟩ = some (.int .u64 m.df) := q1
      have e2 : w.drew.drew.cell? ⟨sb, 1, none⟩ = some (.slice (some ⟨g, 0, none⟩) (r.length + 1) c) := c1
      have e3 : w.drew.drew.cell? ⟨g, 0, none⟩ = some (.int .i64 x) := c2
      clear h ha hm hok hd hhd q0 q1 q2 qf hvis hwx hg1 hg2 hg3
      go_enter Try.func12, Try.ntmps12
      go_upto_region 3 with fail
      go_region_held3 (fun w' => w'.cell? ⟨sb, 0, none⟩ = some (.map (some mb)) ∧ w'.cell? ⟨sb, 1, none⟩ = some (.slice (some ⟨g, 0, none⟩) (r.length + 1) c) ∧ w'.cell? ⟨g, 0, none⟩ = some (.int .i64 x) ∧ (Instr.lookup 61 (.map (some mb)) (.int .i64 x) false).run Try.prog w' = .ok (.pointer (some ⟨bl x, 0, none⟩)) w')
        (exact ⟨d0, d1, d2, L⟩) (fail)
      go_upto_region 7 with fail
      go_region_held3 (fun w' => w'.cell? ⟨sb, 1, none⟩ = some (.slice (some ⟨g, 0, none⟩) (r.length + 1) c) ∧ w'.cell? ⟨g, 0, none⟩ = some (.int .i64 x) ∧ w'.cell? ⟨bl x, 1, none⟩ = some (.int .u64 m.df))
        (exact ⟨e2, e3, e1⟩) (fail)
      go_wp2_with fail
      exact bodyPost_ret (v := .tuple #[.int .i64 x, .int .u64 m.df, .bool true]) (by simp [results, Try.results12, go_sem]) rfl ⟨by rw [V.out], T.out _ (fun _ => rfl) ⟨rfl, rfl, rfl, Nat.le_refl _, fun _ _ _ => rfl⟩⟩
    | false =>
      have hvis : m.visit = ⟨m.who, m.q, min (m.df + m.q) 18446744073709551615, true⟩ := by unfold Mb.visit; rw [if_neg (by rw [hv]; decide)]
      have T : Hid (∀ w', w'.heap[bl x]? = some (.cells #[.int .u64 m.q, .int .u64 (min (m.df + m.q) 18446744073709551615), .bool true] 67 (0, 0)) → (∀ k, k < w.heap.size → k ≠ bl x → w'.heap[k]? = w.heap[k]?) → Keep F w w' → Trn w sb s.front F w') := Lib.hid (fun w' hat hh hk => by
        have e : s.front = ⟨upd s.ms ⟨m.who, m.q, min (m.df + m.q) 18446744073709551615, true⟩, s.act⟩ := by unfold Sc.front; rw [hhd]; simp only; rw [hvis]
        rw [e]
        have hok2 := Mb.visit_ok hok
        rw [hvis] at hok2
        refine ⟨F, ⟨_, _, _, _, h.put (m := m) (m' := ⟨m.who, m.q, min (m.df + m.q) 18446744073709551615, true⟩) (by rw [hwx]; exact hm) rfl hok2 ?_ ?_⟩, hk, fun _ hk => .inl hk⟩
        · rw [hwx]; exact hat
        · rw [hwx]; exact hh)
      have V : Hid (s.frontV = .tuple #[.int .i64 x, .int .u64 (min (m.df + m.q) 18446744073709551615), .bool true]) := Lib.hid (by unfold Sc.frontV; rw [hhd]; simp only; rw [hvis, hwx])
      rw [hv] at q2
      have p2 : w.drew.cell? ⟨bl x, 2, none⟩ = some (.bool false) := q2
      have f2 : w.drew.frozen? ⟨bl x, 2, none⟩ = false := qf 2
      have HDR : Hid (0 ≤ m.df ∧ m.df < 18446744073709551616) := Lib.hid ⟨hok.d0, hok.d1⟩
      have HQR : Hid (0 ≤ m.q ∧ m.q < 18446744073709551616) := Lib.hid ⟨by have := hok.q0; omega, by have := hok.q1; omega⟩
      have HV := Lib.hid hv
      clear h ha hm hok hd hhd q0 q1 q2 qf hvis hwx hg1 hg2 hg3 hv
      go_enter Try.func12, Try.ntmps12
      go_upto_region 3 with fail
      go_region_held3 (fun w' => w'.cell? ⟨sb, 0, none⟩ = some (.map (some mb)) ∧ w'.cell? ⟨sb, 1, none⟩ = some (.slice (some ⟨g, 0, none⟩) (r.length + 1) c) ∧ w'.cell? ⟨g, 0, none⟩ = some (.int .i64 x) ∧ (Instr.lookup 61 (.map (some mb)) (.int .i64 x) false).run Try.prog w' = .ok (.pointer (some ⟨bl x, 0, none⟩)) w')
        (exact ⟨d0, d1, d2, L⟩) (fail)
      go_upto_region 6 with fail
      have HP5 : Hid ((w.setCell ⟨bl x, 2, none⟩ (.bool true)).drew.heap[bl x]? = some (.cells #[.int .u64 m.q, .int .u64 m.df, .bool true] 67 (0, 0))) := Lib.hid (by
        have h1 : w.heap[bl x]? = some (.cells (mcells m) 67 (0, 0)) := HMH.out
        exact hset_at w (bl x) 2 (.bool true) h1)
      have HK5 : Hid (Keep (fun k => k = bl x) w (w.setCell ⟨bl x, 2, none⟩ (.bool true)).drew) := Lib.hid (((Keep.refl (fun k => k = bl x) w).setCell _ _ (fun _ => rfl)).drew)
      have HX5 : Hid (∀ k, k ≠ bl x → (w.setCell ⟨bl x, 2, none⟩ (.bool true)).drew.heap[k]? = w.heap[k]?) := Lib.hid (fun k hk => hset_other _ _ _ hk)
      obtain ⟨w5, hw5⟩ : ∃ w5, (w.setCell ⟨bl x, 2, none⟩ (.bool true)).drew = w5 := ⟨_, rfl⟩
      obtain ⟨pm, hpm⟩ : ∃ pm, bl x = pm := ⟨_, rfl⟩
      have HPM := Lib.hid hpm
      rw [hw5, hpm] at HP5 HK5 HX5
      rw [hpm] at hw5 HG3 HFX T HMH
      rw [hpm, hw5]
      clear hw5 hpm f2 p2 d0 d1 d2 L c0 c1 c2
      apply wp_region_words3 (CutE pm 1 12) (CutI w5 pm 12)
        [isVal _, isVal _, isVal _, isVal _, isVal (.int .u64 m.df), isVal _, isVal _, isVal _, isVal (.int .u64 m.q), isVal (.int .u64 (min (m.df + m.q) 18446744073709551615)), isVal _, isVal _, CutD w5 pm 1 67 #[.int .u64 m.q, .int .u64 m.df, .bool true] (.int .u64 (min (m.df + m.q) 18446744073709551615))]
        [[], [], [1], [2], [3], [], [5], [6], [7], [4, 8], [0], [10], [9, 11]] [0, 1, 2, 3, 4, 5, 6, 7, 8, 9, 10, 11, 12] (by kernel_rfl) (by kernel_rfl) ?hFf ?standf ?hIf ?stepsf ?finf
      case hFf => intro v; simp [fillFrom, Act.put]; rfl
      case standf =>
        refine And.intro ?_ ?_
        · (intro k u w w' _ _ h _; exact h)
        refine And.intro ?_ ?_
        · (intro k u w w' _ _ h _; exact h)
        refine And.intro ?_ ?_
        · (intro k u w w' _ _ h _; exact h)
        refine And.intro ?_ ?_
        · (intro k u w w' _ _ h _; exact h)
        refine And.intro ?_ ?_
        · (intro k u w w' _ _ h _; exact h)
        refine And.intro ?_ ?_
        · (intro k u w w' _ _ h _; exact h)
        refine And.intro ?_ ?_
        · (intro k u w w' _ _ h _; exact h)
        refine And.intro ?_ ?_
        · (intro k u w w' _ _ h _; exact h)
        refine And.intro ?_ ?_
        · (intro k u w w' _ _ h _; exact h)
        refine And.intro ?_ ?_
        · (intro k u w w' _ _ h _; exact h)
        refine And.intro ?_ ?_
        · (intro k u w w' _ _ h _; exact h)
        refine And.intro ?_ ?_
        · (intro k u w w' _ _ h _; exact h)
        refine And.intro ?_ ?_
        · exact cutD_stand rfl
        exact trivial
      case hIf => exact cutI_start
      case stepsf =>
        refine And.intro ?_ ?_
        · intro dn v w' hdk hI hdn hcl hd K hK
          simp only [allOf, word, List.getD_cons_zero, List.getD_cons_succ, isVal, and_true, true_and] at hd
          have HK := Lib.hid hK
          clear hK
          go_simp
          exact HK.out _ _ rfl hI.pass (rfl)
        refine And.intro ?_ ?_
        · intro dn v w' hdk hI hdn hcl hd K hK
          simp only [allOf, word, List.getD_cons_zero, List.getD_cons_succ, isVal, and_true, true_and] at hd
          have HK := Lib.hid hK
          clear hK
          go_simp
          exact HK.out _ _ rfl hI.pass (rfl)
        refine And.intro ?_ ?_
        · intro dn v w' hdk hI hdn hcl hd K hK
          simp only [allOf, word, List.getD_cons_zero, List.getD_cons_succ, isVal, and_true, true_and] at hd
          try simp only [hd] at hK
          have HK := Lib.hid hK
          clear hK
          go_simp
          exact HK.out _ _ rfl hI.pass (rfl)
        refine And.intro ?_ ?_
        · intro dn v w' hdk hI hdn hcl hd K hK
          simp only [allOf, word, List.getD_cons_zero, List.getD_cons_succ, isVal, and_true, true_and] at hd
          try simp only [hd] at hK
          have HK := Lib.hid hK
          clear hK
          go_simp
          exact HK.out _ _ rfl hI.pass (rfl)
        refine And.intro ?_ ?_
        · intro dn v w' hdk hI hdn hcl hd K hK
          simp only [allOf, word, List.getD_cons_zero, List.getD_cons_succ, isVal, and_true, true_and] at hd
          simp only [hd] at hK
          have d12 := undone (q := 12) hcl (undone (q := 9) hcl hdk (by decide)) (by decide)
          have cc : w'.cell? ⟨pm, 1, none⟩ = some (.int .u64 m.df) := hI.cell d12 HP5.out 1
          have HK := Lib.hid hK
          clear hK
          go_simp
          exact HK.out _ _ rfl hI.pass (rfl)
        refine And.intro ?_ ?_
        · intro dn v w' hdk hI hdn hcl hd K hK
          simp only [allOf, word, List.getD_cons_zero, List.getD_cons_succ, isVal, and_true, true_and] at hd
          have HK := Lib.hid hK
          clear hK
          go_simp
          exact HK.out _ _ rfl hI.pass (rfl)
        refine And.intro ?_ ?_
        · intro dn v w' hdk hI hdn hcl hd K hK
          simp only [allOf, word, List.getD_cons_zero, List.getD_cons_succ, isVal, and_true, true_and] at hd
          try simp only [hd] at hK
          have HK := Lib.hid hK
          clear hK
          go_simp
          exact HK.out _ _ rfl hI.pass (rfl)
        refine And.intro ?_ ?_
        · intro dn v w' hdk hI hdn hcl hd K hK
          simp only [allOf, word, List.getD_cons_zero, List.getD_cons_succ, isVal, and_true, true_and] at hd
          try simp only [hd] at hK
          have HK := Lib.hid hK
          clear hK
          go_simp
          exact HK.out _ _ rfl hI.pass (rfl)
        refine And.intro ?_ ?_
        · intro dn v w' hdk hI hdn hcl hd K hK
          simp only [allOf, word, List.getD_cons_zero, List.getD_cons_succ, isVal, and_true, true_and] at hd
          simp only [hd] at hK
          have d12 := undone (q := 12) hcl (undone (q := 9) hcl hdk (by decide)) (by decide)
          have cc : w'.cell? ⟨pm, 0, none⟩ = some (.int .u64 m.q) := hI.cell d12 HP5.out 0
          have HK := Lib.hid hK
          clear hK
          go_simp
          exact HK.out _ _ rfl hI.pass (rfl)
        refine And.intro ?_ ?_
        · intro dn v w' hdk hI hdn hcl hd K hK
          simp only [allOf, word, List.getD_cons_zero, List.getD_cons_succ, isVal, and_true, true_and] at hd
          try simp only [hd] at hK
          have HK := Lib.hid hK
          clear hK
          go_simp
          refine (satAdd_any m.df m.q HDR.out HQR.out w').mono ?_
          rintro e w6 ⟨rfl, rfl⟩
          exact HK.out _ _ rfl hI.pass rfl
        refine And.intro ?_ ?_
        · intro dn v w' hdk hI hdn hcl hd K hK
          simp only [allOf, word, List.getD_cons_zero, List.getD_cons_succ, isVal, and_true, true_and] at hd
          try simp only [hd] at hK
          have HK := Lib.hid hK
          clear hK
          go_simp
          exact HK.out _ _ rfl hI.pass (rfl)
        refine And.intro ?_ ?_
        · intro dn v w' hdk hI hdn hcl hd K hK
          simp only [allOf, word, List.getD_cons_zero, List.getD_cons_succ, isVal, and_true, true_and] at hd
          try simp only [hd] at hK
          have HK := Lib.hid hK
          clear hK
          go_simp
          exact HK.out _ _ rfl hI.pass (rfl)
        refine And.intro ?_ ?_
        · intro dn v w' hdk hI hdn hcl hd K hK
          simp only [allOf, word, List.getD_cons_zero, List.getD_cons_succ, isVal, and_true, true_and] at hd
          simp only [hd] at hK
          have cc : w'.cell? ⟨pm, 1, none⟩ = some (.int .u64 m.df) := hI.cell hdk HP5.out 1
          have f12 := hI.free hdk HP5.out 1
          have HK := Lib.hid hK
          clear hK
          go_simp
          exact HK.out undef _ (cutD_at hI hdk HP5.out undef) (hI.set rfl _) ⟨_, rfl⟩
        exact trivial
      intro v w8 dn hall hI hd
      simp only [allOf, word, List.getD_cons_zero, List.getD_cons_succ, isVal, and_true, true_and] at hd
      obtain ⟨h0, h1, h2, h3, h4, h5, h6, h7, h8, h9, h10, h11, ⟨hh8, hk8⟩⟩ := hd
      simp only [h0, h1, h2, h3, h4, h5, h6, h7, h8, h9, h10, h11]
      clear h0 h1 h2 h3 h4 h5 h6 h7 h8 h9 h10 h11
      have K8 : Hid (Keep (fun k => k = pm) w w8.drew) := Lib.hid ((HK5.out.trans hk8 (fun i _ h => h)).drew)
      have H9 : Hid (w8.drew.heap[pm]? = some (.cells #[.int .u64 m.q, .int .u64 (min (m.df + m.q) 18446744073709551615), .bool true] 67 (0, 0))) := Lib.hid hh8
      have e1 : w8.drew.cell? ⟨pm, 1, none⟩ = some (.int .u64 (min (m.df + m.q) 18446744073709551615)) := cell_of_block H9.out 1
      have e2 : w8.drew.cell? ⟨sb, 1, none⟩ = some (.slice (some ⟨g, 0, none⟩) (r.length + 1) c) := (K8.out.cell (p := ⟨sb, 1, none⟩) (block_lt HD.out.head) (Ne.symm HFX.out.2.1)).trans (cell_of_block (w := w) HD.out.head 1)
      have e3 : w8.drew.cell? ⟨g, 0, none⟩ = some (.int .i64 x) := (K8.out.cell (p := ⟨g, 0, none⟩) HGL.out (Ne.symm HG3.out)).trans HC2.out
      clear hh8 hk8 hI hall
      generalize min (m.df + m.q) 18446744073709551615 = df2 at *
      go_upto_region 7 with fail
      go_region_held3 (fun w' => w'.cell? ⟨sb, 1, none⟩ = some (.slice (some ⟨g, 0, none⟩) (r.length + 1) c) ∧ w'.cell? ⟨g, 0, none⟩ = some (.int .i64 x) ∧ w'.cell? ⟨pm, 1, none⟩ = some (.int .u64 df2))
        (exact ⟨e2, e3, e1⟩) (fail)
      go_wp2_with fail
      exact bodyPost_ret (v := .tuple #[.int .i64 x, .int .u64 df2, .bool true]) (by simp [results, Try.results12, go_sem]) rfl ⟨by rw [V.out], T.out _ H9.out (fun k hlt hk => K8.out.block k hlt hk) (K8.out.mono (fun i _ e => e ▸ HFX.out.1))⟩
end Go.Proofs.Ytliepgmjpbjhfaa.Drr
