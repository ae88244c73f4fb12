/- Contracts of Wake, Spend, Next, Block, Rest and Active. Conditions: none beyond each lemma's own hypotheses. -/
import Derived.Test.YtliepgmjpbjhfaaFgDrrFront
set_option linter.unusedVariables false
set_option linter.unusedSimpArgs false
namespace Go.Proofs.Ytliepgmjpbjhfaa.Drr
open Go.RowKit Go.Proofs.Ytliepgmjpbjhfaa.Fg Go.Shelf Go.Maps

theorem intInfo : (Try.prog.info? 3).map (fun i => (i.zero, i.size, i.bytes)) = some (some (.int .i64 0), 1, 8) := by kernel_rfl
theorem IsS.newrow {w1 w2 : World} {sb mb : Nat} {D : DataW Unit} {bl : Int → Nat} {va va' : Value} {s : Sc} {F : Nat → Prop} (h : IsS w1 sb mb D bl va s F) {act : List Int} (ho : Sc.ok ⟨s.ms, act⟩)
    (hrow : w2.ownsRow 0 3 1 va' act.length (iv act)) (hk : Keep (fun k => va.ownBlock = some k) w1 w2) (hv : ∀ k, va'.ownBlock = some k → va.ownBlock = some k ∨ w1.heap.size ≤ k) :
    IsS (w2.setCell ⟨sb, 1, none⟩ va') sb mb D bl va' ⟨s.ms, act⟩ (fun k => F k ∨ va'.ownBlock = some k) ∧ Keep F w1 (w2.setCell ⟨sb, 1, none⟩ va') ∧ ∀ k, (F k ∨ va'.ownBlock = some k) → F k ∨ w1.heap.size ≤ k := by
  have hsb := h.lt _ h.fs.1
  have hn : va.ownBlock ≠ some sb := fun e => (h.actF _ e).2.1 rfl
  refine ⟨h.row ho ?_ ?_ ?_ hv ?_, ?_, ?_⟩
  · have := hset_at w2 sb 1 va' ((hk.block _ hsb hn).trans h.head)
    simpa using this
  · refine own_same hrow fun k hk2 => hset_other _ _ _ (fun e => ?_)
    have e : k = sb := e
    subst e
    rcases hv k hk2 with e | e
    · exact hn e
    · omega
  · have := hk.size; simpa using this
  · intro k hlt hne hva
    exact (hset_other _ _ _ hne).trans (hk.block k hlt hva)
  · exact (hk.mono (fun i _ e => (h.actF i e).1)).setCell _ _ (fun _ => h.fs.1)
  · rintro k (hk2 | hk2)
    · exact .inl hk2
    · rcases hv k hk2 with e | e
      · exact .inl (h.actF k e).1
      · exact .inr e
theorem keep_grown {w w' : World} {r : Option Nat} (hg : w.grownBy w' r) : Keep (fun k => r = some k) w w' := ⟨hg.os, hg.tape, hg.output, hg.size, fun k hk hn => hg.block k hk (fun e => hn e.symm)⟩
/-- A row that had one appended is laid into its place. -/
theorem IsS.pushed {w w2 : World} {o : Obj} {sb mb : Nat} {D : DataW Unit} {bl : Int → Nat} {va va' : Value} {s : Sc} {F : Nat → Prop} (h : IsS w sb mb D bl va s F) {act : List Int} (ho : Sc.ok ⟨s.ms, act⟩)
    (hrow : w2.ownsRow 0 3 1 va' act.length (iv act)) (hg : (w.alloc o).grownBy w2 va.ownBlock) (hat : va'.ownBlock = va.ownBlock ∨ va'.ownBlock = some (w.alloc o).heap.size) :
    Trn w sb ⟨s.ms, act⟩ F (w2.setCell ⟨sb, 1, none⟩ va') ∧ ∃ F', IsS (w2.setCell ⟨sb, 1, none⟩ va') sb mb D bl va' ⟨s.ms, act⟩ F' ∧ Keep F w (w2.setCell ⟨sb, 1, none⟩ va') ∧ ∀ k, F' k → F k ∨ w.heap.size ≤ k := by
  have h1 : IsS (w.alloc o) sb mb D bl va s F := h.same fun k hk => heap_alloc_old w o (h.lt k hk)
  obtain ⟨a1, a2, a3⟩ := h1.newrow ho hrow (keep_grown hg) (fun k hk => hat.elim (fun e => .inl (e ▸ hk)) (fun e => .inr (by rw [e] at hk; injection hk with hk; omega)))
  have k1 : Keep F w (w.alloc o) := (Keep.refl F w).alloc o
  have k2 := k1.trans a2 (fun i _ hi => hi)
  have k3 : ∀ k, (F k ∨ va'.ownBlock = some k) → F k ∨ w.heap.size ≤ k := fun k hk => (a3 k hk).imp id (fun hge => by simp at hge; omega)
  exact ⟨⟨_, ⟨_, _, _, _, a1⟩, k2, k3⟩, _, a1, k2, k3⟩
theorem src_int (w : World) (x : Int) : Src (w.alloc (.cells #[.int .i64 x] 3)) (some ⟨w.heap.size, 0, none⟩) 1 1 [.int .i64 x] := src_cell w (.int .i64 x) 3

set_option maxRecDepth 100000 in
set_option maxHeartbeats 1000000 in
theorem wake_any {w : World} {sb : Nat} {s : Sc} {F : Nat → Prop} (h : IsSc w sb s F) (x : Int) (hx : (Lit.int .i64 x).wf = true) :
    Calls Try.prog 11 #[.pointer (some ⟨sb, 0, none⟩), .int .i64 x] w fun e w' => e = .returned (.int .i64 (s.wakeE x)) ∧ Trn w sb (s.wake x) F w' := by
  obtain ⟨mb, D, bl, va, h⟩ := h
  obtain ⟨c0, c1, f1⟩ := h.cells
  have HH := Lib.hid h
  cases hf : fnd s.ms x with
  | none =>
    have L := (look h x hx).2 hf
    have T : Hid (s.wakeE x = 201 ∧ Trn w sb (s.wake x) F w) := Lib.hid (by unfold Sc.wakeE Sc.wake; rw [if_pos hf, if_pos hf]; exact ⟨rfl, Trn.refl ⟨_, _, _, _, h⟩⟩)
    clear h hf
    go_enter Try.func11, Try.ntmps11
    go_wp2_with fail
    go_ret
    exact ⟨by rw [T.out.1]; rfl, T.out.2⟩
  | some m =>
    have L := ((look h x hx).1 m hf).1
    have hne : ¬ fnd s.ms x = none := by rw [hf]; intro e; cases e
    have E : Hid (s.wakeE x = 0) := Lib.hid (by unfold Sc.wakeE; rw [if_neg hne])
    have CT := Lib.hid (contains_any h.act x)
    by_cases hm : x ∈ s.act
    · have T : Hid (Trn w sb (s.wake x) F w) := Lib.hid (by unfold Sc.wake; rw [if_neg hne, if_pos hm]; exact Trn.refl ⟨_, _, _, _, h⟩)
      rw [List.contains_iff_mem.2 hm] at CT
      clear h hf hne hm
      go_enter Try.func11, Try.ntmps11
      go_wp2_with fail
      refine CT.out.mono ?_
      rintro e w1 ⟨rfl, rfl⟩
      go_wp2_with fail
      go_ret
      exact ⟨by rw [E.out]; rfl, T.out⟩
    · have W : Hid (s.wake x = ⟨s.ms, s.act ++ [x]⟩) := Lib.hid (by unfold Sc.wake; rw [if_neg hne, if_neg hm])
      have hok : Sc.ok ⟨s.ms, s.act ++ [x]⟩ := by rw [← W.out]; exact Sc.wake_ok h.ok x
      have HOK := Lib.hid hok
      have hct : s.act.contains x = false := by simpa using hm
      rw [hct] at CT
      have SS := Lib.hid (src_int w x)
      have HA : Hid ((w.alloc (.cells #[.int .i64 x] 3)).ownsRow 0 3 1 va s.act.length (iv s.act)) := Lib.hid (own_same h.act fun k hk => heap_alloc_old w _ (h.lt k (h.actF k hk).1))
      have HB : Hid ((s.act.length + 1) * 8 ≤ 140737488355328) := Lib.hid (by have := h.ok.few_act; omega)
      have HS : Hid (sb < w.heap.size ∧ ∀ k, va.ownBlock = some k → k ≠ sb) := Lib.hid ⟨h.lt _ h.fs.1, fun k hk => (h.actF k hk).2.1⟩
      clear h hf hne hm hok hct
      go_enter Try.func11, Try.ntmps11
      go_wp2_with fail
      refine CT.out.mono ?_
      rintro e w1 ⟨rfl, rfl⟩
      go_wp2_with (at_builtin; refine wpList_append_any rfl (.tmp 29) (.tmp 31) 38 rfl 0 3 (.int .i64 0) 1 8 Try.underlying38 intInfo rfl (by decide) (by decide) va s.act.length _ rfl HA.out (some ⟨_, 0, none⟩) 1 1 [.int .i64 x] rfl SS.out rfl (by simp [Value.oneCell']) HB.out (Nat.zero_le _) ?_)
      intro v' w2 ho2 hg2 _ hat2
      obtain ⟨A9, c9, rfl, -⟩ := own_form ho2
      have PS := Lib.hid (HH.out.pushed (act := s.act ++ [x]) HOK.out (by simpa [iv] using ho2) hg2 (by simpa using hat2))
      have x1 : w2.cell? ⟨sb, 1, none⟩ = some va := (World.cell?_of_block (a := ⟨sb, 1, none⟩) (hg2.block sb (by have := HS.out.1; simp; omega) (fun e => HS.out.2 sb e.symm rfl))).trans ((World.cell?_of_block (a := ⟨sb, 1, none⟩) (heap_alloc_old _ _ HS.out.1)).trans c1)
      have x2 : w2.frozen? ⟨sb, 1, none⟩ = false := (World.frozen?_of_block (a := ⟨sb, 1, none⟩) (hg2.block sb (by have := HS.out.1; simp; omega) (fun e => HS.out.2 sb e.symm rfl))).trans ((World.frozen?_of_block (a := ⟨sb, 1, none⟩) (heap_alloc_old _ _ HS.out.1)).trans f1)
      clear ho2 hg2 hat2
      go_wp2_with fail
      go_ret
      exact ⟨by rw [E.out]; rfl, by rw [W.out]; exact PS.out.1⟩

set_option maxRecDepth 100000 in
set_option maxHeartbeats 1000000 in
theorem spend_any {w : World} {sb : Nat} {s : Sc} {F : Nat → Prop} (h : IsSc w sb s F) (n : Int) (hn : 0 ≤ n) :
    Calls Try.prog 13 #[.pointer (some ⟨sb, 0, none⟩), .int .u64 n] w fun e w' => e = .returned (.bool (s.spendB n)) ∧ Trn w sb (s.spend n) F w' := by
  obtain ⟨mb, D, bl, va, h⟩ := h
  have FP := Lib.hid (frontp_any h)
  have HH := Lib.hid h
  cases hf : s.fv with
  | none =>
    rw [hf] at FP
    have T : Hid (s.spendB n = false ∧ s.spend n = s) := Lib.hid (by unfold Sc.spendB Sc.spend; rw [hf]; exact ⟨rfl, rfl⟩)
    clear h hf
    go_enter Try.func13, Try.ntmps13
    go_wp2_with fail
    refine FP.out.mono ?_
    rintro e w1 ⟨hb, rfl⟩
    have B1 := Lib.hid hb
    clear hb
    simp only [Option.map_none]
    go_wp2_with fail
    go_ret
    exact ⟨by rw [T.out.1]; rfl, by rw [T.out.2]; exact ⟨F, IsSc.below ⟨_, _, _, _, HH.out⟩ B1.out, Keep.of_new B1.out, fun _ h => .inl h⟩⟩
  | some m =>
    rw [hf] at FP
    obtain ⟨hhd, hvis⟩ := fv_some hf
    obtain ⟨r, hr, hfm⟩ := head_some hhd
    have hok := h.ok.each m (fnd_mem hfm)
    have hd0 := hok.d0
    have hd1 := hok.d1
    have OK := Lib.hid hok
    have FM := Lib.hid hfm
    have HF := Lib.hid hf
    clear hhd hvis hr hfm hok h hf
    go_enter Try.func13, Try.ntmps13
    go_wp2_with fail
    refine FP.out.mono ?_
    rintro e w1 ⟨hb, rfl⟩
    have B1 := Lib.hid hb
    have H1 := Lib.hid (HH.out.same fun k hk => hb.block k (HH.out.lt k hk))
    obtain ⟨-, q1, -, qf⟩ := H1.out.mcell FM.out
    have f1 := qf 1
    clear hb qf FP
    simp only [Option.map_some]
    by_cases hle : n ≤ m.df
    · have T : Hid (s.spendB n = true ∧ s.spend n = ⟨upd s.ms ⟨m.who, m.q, m.df - n, m.vis⟩, s.act⟩) := Lib.hid (by unfold Sc.spendB Sc.spend; rw [HF.out]; exact ⟨decide_eq_true hle, if_pos hle⟩)
      have W1 : IntKind.u64.wrap (m.df - n) = m.df - n := by simp [IntKind.wrap, IntKind.bits, IntKind.signed]; omega
      have N1 : Hid (Trn w sb (s.spend n) F (w1.setCell ⟨bl m.who, 1, none⟩ (.int .u64 (m.df - n)))) := Lib.hid (by
        rw [T.out.2]
        refine ⟨F, ⟨_, _, _, _, H1.out.put (m := m) (m' := ⟨m.who, m.q, m.df - n, m.vis⟩) FM.out rfl ⟨OK.out.wf, OK.out.q0, OK.out.q1, by show 0 ≤ m.df - n; omega, by show m.df - n < _; omega⟩ ?_ (fun k _ hk => hset_other _ _ _ hk)⟩, (Keep.of_new B1.out).setCell _ _ (fun _ => (HH.out.memF m (fnd_mem FM.out)).1), fun _ h => .inl h⟩
        exact hset_at w1 (bl m.who) 1 (.int .u64 (m.df - n)) (H1.out.mem m (fnd_mem FM.out)))
      go_wp2_with fail
      go_ret
      exact ⟨by rw [T.out.1]; rfl, N1.out⟩
    · have T : Hid (s.spendB n = false ∧ s.spend n = s) := Lib.hid (by unfold Sc.spendB Sc.spend; rw [HF.out]; exact ⟨decide_eq_false hle, if_neg hle⟩)
      have N1 : Hid (Trn w sb (s.spend n) F w1) := Lib.hid (by
        rw [T.out.2]
        exact ⟨F, ⟨_, _, _, _, H1.out⟩, Keep.of_new B1.out, fun _ h => .inl h⟩)
      go_wp2_with fail
      go_ret
      exact ⟨by rw [T.out.1]; rfl, N1.out⟩
end Go.Proofs.Ytliepgmjpbjhfaa.Drr
