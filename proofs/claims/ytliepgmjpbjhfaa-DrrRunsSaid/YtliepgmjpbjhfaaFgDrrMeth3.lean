/- Contracts of leave, Next, Block, Rest and Active. Conditions: none beyond each lemma's own hypotheses. -/
import Derived.Test.YtliepgmjpbjhfaaFgDrrMeth2
set_option linter.unusedVariables false
set_option linter.unusedSimpArgs false
namespace Go.Proofs.Ytliepgmjpbjhfaa.Drr
open Go.RowKit Go.Proofs.Ytliepgmjpbjhfaa.Fg Go.Shelf Go.Maps

theorem own_one {g n c k : Nat} (h : (Value.slice (some ⟨g, 0, none⟩) n c).ownBlock = some k) : g = k := by simpa [Value.ownBlock] using h
theorem fnd_left {s : Sc} {m : Mb} (hf : s.fv = some m) (keeps stays : Bool) : fnd (s.leave keeps stays).ms m.who = some ⟨m.who, m.q, if keeps then m.df else 0, false⟩ := by
  obtain ⟨r, hr, hfm⟩ := head_some (fv_some hf).1
  unfold Sc.leave
  rw [hf]
  show fnd (upd s.ms _) m.who = _
  rw [fnd_upd, if_pos rfl, hfm]
  rfl
theorem leave_zero {s : Sc} {m : Mb} (hf : s.fv = some m) (stays : Bool) : s.leave false stays = ⟨upd (s.leave true stays).ms ⟨m.who, m.q, 0, false⟩, (s.leave true stays).act⟩ := by
  unfold Sc.leave
  rw [hf]
  simp only [if_true]
  congr 1
  unfold upd
  rw [List.map_map]
  apply List.map_congr_left
  intro y _
  simp only [Function.comp]
  by_cases e : y.who = m.who
  · simp [e]
  · simp [e]
/-- What leave makes. -/
def LeaveE (w : World) (sb mb : Nat) (D : DataW Unit) (bl : Int → Nat) (s : Sc) (F : Nat → Prop) (stays : Bool) (e : Ending) (w' : World) : Prop :=
  match s.fv with
  | none => e = .returned (.tuple #[.pointer none, .bool false]) ∧ Below w.heap.size w w'
  | some m => ∃ va' F', e = .returned (.tuple #[.pointer (some ⟨bl m.who, 0, none⟩), .bool true]) ∧ IsS w' sb mb D bl va' (s.leave true stays) F' ∧ Keep F w w' ∧ ∀ k, F' k → F k ∨ w.heap.size ≤ k
set_option maxRecDepth 100000 in
set_option maxHeartbeats 2000000 in
theorem leave_any {w : World} {sb mb : Nat} {D : DataW Unit} {bl : Int → Nat} {va : Value} {s : Sc} {F : Nat → Prop} (h : IsS w sb mb D bl va s F) (stays : Bool) :
    Calls Try.prog 31 #[.pointer (some ⟨sb, 0, none⟩), .bool stays] w (LeaveE w sb mb D bl s F stays) := by
  have FP := Lib.hid (frontp_any h)
  have HH := Lib.hid h
  unfold LeaveE
  cases hf : s.fv with
  | none =>
    rw [hf] at FP
    clear h hf
    go_enter Try.func31, Try.ntmps31
    go_wp2_with fail
    refine FP.out.mono ?_
    rintro e w1 ⟨hb, rfl⟩
    have B1 := Lib.hid hb
    clear hb
    simp only [Option.map_none]
    go_wp2_with fail
    exact bodyPost_ret (v := .tuple #[.pointer none, .bool false]) (by simp [results, Try.results31, go_sem]) rfl ⟨rfl, B1.out⟩
  | some m =>
    rw [hf] at FP
    obtain ⟨hhd, hvis⟩ := fv_some hf
    obtain ⟨r, hr, hfm⟩ := head_some hhd
    have OK := Lib.hid (h.ok.each m (fnd_mem hfm))
    have FM := Lib.hid hfm
    have HF := Lib.hid hf
    have HR := Lib.hid hr
    obtain ⟨g, c, rfl, hc2, hc, hcm, hFg, -⟩ := h.first hr
    have HFG := Lib.hid hFg
    clear hhd hvis hfm h hf hc2
    unfold maxLen at hcm
    go_enter Try.func31, Try.ntmps31
    go_wp2_with fail
    refine FP.out.mono ?_
    rintro e w1 ⟨hb, rfl⟩
    have B1 := Lib.hid hb
    have h1 := HH.out.same fun k hk => hb.block k (HH.out.lt k hk)
    have hfr : w1.frozen? ⟨bl m.who, 2, none⟩ = false := (h1.mcell FM.out).2.2.2 2
    have hc2' : w1.cell? ⟨bl m.who, 2, none⟩ = some (.bool m.vis) := (h1.mcell FM.out).2.2.1
    have H2 : Hid (IsS (w1.setCell ⟨bl m.who, 2, none⟩ (.bool false)) sb mb D bl (.slice (some ⟨g, 0, none⟩) (r.length + 1) c) ⟨upd s.ms ⟨m.who, m.q, m.df, false⟩, s.act⟩ F) := Lib.hid (
      h1.put (m := m) (m' := ⟨m.who, m.q, m.df, false⟩) FM.out rfl ⟨OK.out.wf, OK.out.q0, OK.out.q1, OK.out.d0, OK.out.d1⟩ (hset_at w1 (bl m.who) 2 (.bool false) (h1.mem m (fnd_mem FM.out))) (fun k _ hk => hset_other _ _ _ hk))
    have K2 : Hid (Keep F w (w1.setCell ⟨bl m.who, 2, none⟩ (.bool false))) := Lib.hid ((Keep.of_new B1.out).setCell _ _ (fun _ => (HH.out.memF m (fnd_mem FM.out)).1))
    clear hb h1 FP
    simp only [Option.map_some]
    go_upto_region 5 with fail
    obtain ⟨w2, hw2⟩ : ∃ w2, w1.setCell ⟨bl m.who, 2, none⟩ (.bool false) = w2 := ⟨_, rfl⟩
    rw [hw2] at H2 K2 ⊢
    clear hw2 hfr hc2'
    obtain ⟨c0, c1, f1⟩ := H2.out.cells
    obtain ⟨g', c', he, c2, -⟩ := H2.out.first (x := m.who) (r := r) HR.out
    injection he with he he2 he3
    injection he with he
    injection he with he
    subst he he3
    have hrow : w2.ownsRow 0 3 1 (.slice (some ⟨g, 0, none⟩) (m.who :: r).length c) (m.who :: r).length (iv (m.who :: r)) := by
      have := H2.out.act
      rw [show (⟨upd s.ms ⟨m.who, m.q, m.df, false⟩, s.act⟩ : Sc).act = m.who :: r from HR.out] at this
      exact this
    have DEL := Lib.hid (delete_any hrow (by simp))
    have NG : Hid (g ≠ sb) := Lib.hid (H2.out.actF g rfl).2.1
    have HOK1 : Hid (Sc.ok ⟨upd s.ms ⟨m.who, m.q, m.df, false⟩, r⟩) := Lib.hid (by
      have := Sc.leave_ok HH.out.ok true false
      unfold Sc.leave at this
      rw [HF.out, HR.out] at this
      simpa using this)
    clear hrow he2
    simp only [List.length_cons, Nat.add_sub_cancel, List.drop_succ_cons, List.drop_zero] at DEL
    go_upto_region 6 with fail
    go_wp2_with fail
    refine DEL.out.mono ?_
    rintro e w3 ⟨rfl, hrow3, hk3⟩
    have x1 : w3.cell? ⟨sb, 1, none⟩ = some (.slice (some ⟨g, 0, none⟩) (r.length + 1) c) := (hk3.cell (p := ⟨sb, 1, none⟩) (H2.out.lt _ H2.out.fs.1) (Ne.symm NG.out)).trans c1
    have x2 : w3.frozen? ⟨sb, 1, none⟩ = false := (World.frozen?_of_block (a := ⟨sb, 1, none⟩) (hk3.block sb (H2.out.lt _ H2.out.fs.1) (Ne.symm NG.out))).trans f1
    obtain ⟨n1, n2, n3⟩ := H2.out.newrow (w2 := w3) (act := r) HOK1.out hrow3 (hk3.mono (fun i _ e => by show (Value.slice (some ⟨g, 0, none⟩) (r.length + 1) c).ownBlock = some i; rw [e]; rfl)) (fun k hk => .inl hk)
    have N1 := Lib.hid n1
    have K3 := Lib.hid (K2.out.trans n2 (fun i _ hi => hi))
    have F3 : Hid (∀ k, (F k ∨ (Value.slice (some (⟨g, 0, none⟩ : Addr)) r.length c).ownBlock = some k) → F k ∨ w.heap.size ≤ k) := Lib.hid (fun k hk => hk.elim .inl (fun hk => .inl (own_one hk ▸ HFG.out)))
    clear hrow3 hk3 n1 n2 n3 c0 c1 f1 c2
    cases stays with
    | false =>
      go_wp2_with fail
      refine bodyPost_ret (v := .tuple #[.pointer (some ⟨bl m.who, 0, none⟩), .bool true]) (by simp [results, Try.results31, go_sem]) rfl ⟨.slice (some ⟨g, 0, none⟩) r.length c, (fun k => F k ∨ (Value.slice (some (⟨g, 0, none⟩ : Addr)) r.length c).ownBlock = some k), rfl, ?_, K3.out, F3.out⟩
      have e : s.leave true false = ⟨upd s.ms ⟨m.who, m.q, m.df, false⟩, r⟩ := by unfold Sc.leave; rw [HF.out, HR.out]; simp
      rw [e]
      exact N1.out
    | true =>
      have HOK2 : Hid (Sc.ok ⟨upd s.ms ⟨m.who, m.q, m.df, false⟩, r ++ [m.who]⟩) := Lib.hid (by
        have := Sc.leave_ok HH.out.ok true true
        unfold Sc.leave at this
        rw [HF.out, HR.out] at this
        simpa using this)
      have W4 : Hid (s.leave true true = ⟨upd s.ms ⟨m.who, m.q, m.df, false⟩, r ++ [m.who]⟩) := Lib.hid (by unfold Sc.leave; rw [HF.out, HR.out]; simp)
      go_upto_region 8 with fail
      obtain ⟨w4, hw4⟩ : ∃ w4, w3.setCell ⟨sb, 1, none⟩ (.slice (some ⟨g, 0, none⟩) r.length c) = w4 := ⟨_, rfl⟩
      rw [hw4] at N1 K3 ⊢
      clear hw4 x1 x2
      obtain ⟨-, c1, f1⟩ := N1.out.cells
      have SS := Lib.hid (src_int w4 m.who)
      have HA : Hid ((w4.alloc (.cells #[.int .i64 m.who] 3)).ownsRow 0 3 1 (.slice (some ⟨g, 0, none⟩) r.length c) r.length (iv r)) := Lib.hid (own_same N1.out.act fun k hk => heap_alloc_old w4 _ (N1.out.lt k (N1.out.actF k hk).1))
      have HB : Hid ((r.length + 1) * 8 ≤ 140737488355328) := Lib.hid (by have : r.length ≤ 8 := N1.out.ok.few_act; omega)
      have HS : Hid (sb < w4.heap.size) := Lib.hid (N1.out.lt _ N1.out.fs.1)
      go_wp2_with (at_builtin; refine wpList_append_any rfl (.tmp 34) (.tmp 36) 38 rfl 0 3 (.int .i64 0) 1 8 Try.underlying38 intInfo rfl (by decide) (by decide) (.slice (some ⟨g, 0, none⟩) r.length c) r.length _ rfl HA.out (some ⟨_, 0, none⟩) 1 1 [.int .i64 m.who] rfl SS.out rfl (by simp [Value.oneCell']) HB.out (Nat.zero_le _) ?_)
      intro v' w5 ho5 hg5 _ hat5
      obtain ⟨A9, c9, rfl, -⟩ := own_form ho5
      have PS := Lib.hid (N1.out.pushed (act := r ++ [m.who]) HOK2.out (by simpa [iv] using ho5) hg5 (by simpa using hat5)).2
      have x1 : w5.cell? ⟨sb, 1, none⟩ = some (.slice (some ⟨g, 0, none⟩) r.length c) := (World.cell?_of_block (a := ⟨sb, 1, none⟩) (hg5.block sb (by have := HS.out; simp; omega) (fun e => NG.out (by injection e with e; exact e.symm)))).trans ((World.cell?_of_block (a := ⟨sb, 1, none⟩) (heap_alloc_old _ _ HS.out)).trans c1)
      have x2 : w5.frozen? ⟨sb, 1, none⟩ = false := (World.frozen?_of_block (a := ⟨sb, 1, none⟩) (hg5.block sb (by have := HS.out; simp; omega) (fun e => NG.out (by injection e with e; exact e.symm)))).trans ((World.frozen?_of_block (a := ⟨sb, 1, none⟩) (heap_alloc_old _ _ HS.out)).trans f1)
      clear ho5 hg5 hat5
      go_wp2_with fail
      obtain ⟨F5, p1, p2, p3⟩ := PS.out
      refine bodyPost_ret (v := .tuple #[.pointer (some ⟨bl m.who, 0, none⟩), .bool true]) (by simp [results, Try.results31, go_sem]) rfl ⟨rfl, .slice A9 (r.length + 1) c9, F5, by rw [W4.out]; exact p1, K3.out.trans p2 (fun i hi hF => (F3.out i hF).elim id (fun hge => absurd hi (Nat.not_lt.2 hge))), fun k hk => ?_⟩
      rcases p3 k hk with hk | hk
      · exact F3.out k hk
      · exact .inr (Nat.le_trans K3.out.size hk)
set_option maxRecDepth 100000 in
theorem next_any {w : World} {sb : Nat} {s : Sc} {F : Nat → Prop} (h : IsSc w sb s F) :
    Calls Try.prog 14 #[.pointer (some ⟨sb, 0, none⟩)] w fun e w' => e = .returned (.bool s.leaveB) ∧ Trn w sb (s.leave true true) F w' := by
  obtain ⟨mb, D, bl, va, h⟩ := h
  have LV := Lib.hid (leave_any h true)
  have HH := Lib.hid h
  unfold LeaveE at LV
  cases hf : s.fv with
  | none =>
    rw [hf] at LV
    have T : Hid (s.leaveB = false ∧ s.leave true true = s) := Lib.hid (by unfold Sc.leaveB Sc.leave; rw [hf]; exact ⟨rfl, rfl⟩)
    clear h hf
    go_enter Try.func14, Try.ntmps14
    go_wp2_with fail
    refine LV.out.mono ?_
    rintro e w1 ⟨rfl, hb⟩
    have B1 := Lib.hid hb
    clear hb
    go_wp2_with fail
    go_ret
    exact ⟨by rw [T.out.1]; rfl, by rw [T.out.2]; exact ⟨F, ⟨_, _, _, _, HH.out.same fun k hk => B1.out.block k (HH.out.lt k hk)⟩, Keep.of_new B1.out, fun _ h => .inl h⟩⟩
  | some m =>
    rw [hf] at LV
    have T : Hid (s.leaveB = true) := Lib.hid (by unfold Sc.leaveB; rw [hf]; rfl)
    have HF := Lib.hid hf
    clear h hf
    go_enter Try.func14, Try.ntmps14
    go_wp2_with fail
    refine LV.out.mono ?_
    rintro e w1 ⟨va1, F1, rfl, h1, k1, n1⟩
    have H1 := Lib.hid h1
    have K1 := Lib.hid k1
    have N1 := Lib.hid n1
    clear h1 k1 n1
    go_wp2_with fail
    go_ret
    exact ⟨by rw [T.out]; rfl, F1, ⟨_, _, _, _, H1.out⟩, K1.out, N1.out⟩
set_option maxRecDepth 100000 in
theorem block_any {w : World} {sb : Nat} {s : Sc} {F : Nat → Prop} (h : IsSc w sb s F) :
    Calls Try.prog 20 #[.pointer (some ⟨sb, 0, none⟩)] w fun e w' => e = .returned (.bool s.leaveB) ∧ Trn w sb (s.leave false true) F w' := by
  obtain ⟨mb, D, bl, va, h⟩ := h
  have LV := Lib.hid (leave_any h true)
  have HH := Lib.hid h
  unfold LeaveE at LV
  cases hf : s.fv with
  | none =>
    rw [hf] at LV
    have T : Hid (s.leaveB = false ∧ s.leave false true = s) := Lib.hid (by unfold Sc.leaveB Sc.leave; rw [hf]; exact ⟨rfl, rfl⟩)
    clear h hf
    go_enter Try.func20, Try.ntmps20
    go_wp2_with fail
    refine LV.out.mono ?_
    rintro e w1 ⟨rfl, hb⟩
    have B1 := Lib.hid hb
    clear hb
    go_wp2_with fail
    go_ret
    exact ⟨by rw [T.out.1]; rfl, by rw [T.out.2]; exact ⟨F, ⟨_, _, _, _, HH.out.same fun k hk => B1.out.block k (HH.out.lt k hk)⟩, Keep.of_new B1.out, fun _ h => .inl h⟩⟩
  | some m =>
    rw [hf] at LV
    have T : Hid (s.leaveB = true) := Lib.hid (by unfold Sc.leaveB; rw [hf]; rfl)
    have HF := Lib.hid hf
    clear h hf
    go_enter Try.func20, Try.ntmps20
    go_wp2_with fail
    refine LV.out.mono ?_
    rintro e w1 ⟨va1, F1, rfl, h1, k1, n1⟩
    have H1 := Lib.hid h1
    have K1 := Lib.hid k1
    have N1 := Lib.hid n1
    clear h1 k1 n1
    have FL := Lib.hid (fnd_left HF.out true true)
    obtain ⟨-, q1, -, qf⟩ := H1.out.mcell FL.out
    have f1 := qf 1
    have OKM := Lib.hid (H1.out.ok.each _ (fnd_mem FL.out))
    have P1 : Hid (Trn w sb (s.leave false true) F (w1.setCell ⟨bl m.who, 1, none⟩ (.int .u64 0))) := Lib.hid (by
      rw [leave_zero HF.out]
      have hp := H1.out.put (m := ⟨m.who, m.q, if true = true then m.df else 0, false⟩) (m' := ⟨m.who, m.q, 0, false⟩) FL.out rfl ⟨OKM.out.wf, OKM.out.q0, OKM.out.q1, Int.le_refl _, by show (0 : Int) < _; decide⟩ (w' := w1.setCell ⟨bl m.who, 1, none⟩ (.int .u64 0))
        (hset_at w1 (bl m.who) 1 (.int .u64 0) (H1.out.mem ⟨m.who, m.q, if true = true then m.df else 0, false⟩ (fnd_mem FL.out))) (fun k _ hk => hset_other _ _ _ hk)
      refine ⟨F1, ⟨_, _, _, _, hp⟩, ?_, N1.out⟩
      refine K1.out.setCell _ _ (fun hlt => ?_)
      exact (N1.out _ (H1.out.memF _ (fnd_mem FL.out)).1).elim id (fun hge => absurd hlt (Nat.not_lt.2 hge)))
    clear qf
    go_wp2_with fail
    go_ret
    exact ⟨by rw [T.out]; rfl, P1.out⟩
set_option maxRecDepth 100000 in
theorem rest_any {w : World} {sb : Nat} {s : Sc} {F : Nat → Prop} (h : IsSc w sb s F) :
    Calls Try.prog 19 #[.pointer (some ⟨sb, 0, none⟩)] w fun e w' => e = .returned (.bool s.leaveB) ∧ Trn w sb (s.leave false false) F w' := by
  obtain ⟨mb, D, bl, va, h⟩ := h
  have LV := Lib.hid (leave_any h false)
  have HH := Lib.hid h
  unfold LeaveE at LV
  cases hf : s.fv with
  | none =>
    rw [hf] at LV
    have T : Hid (s.leaveB = false ∧ s.leave false false = s) := Lib.hid (by unfold Sc.leaveB Sc.leave; rw [hf]; exact ⟨rfl, rfl⟩)
    clear h hf
    go_enter Try.func19, Try.ntmps19
    go_wp2_with fail
    refine LV.out.mono ?_
    rintro e w1 ⟨rfl, hb⟩
    have B1 := Lib.hid hb
    clear hb
    go_wp2_with fail
    go_ret
    exact ⟨by rw [T.out.1]; rfl, by rw [T.out.2]; exact ⟨F, ⟨_, _, _, _, HH.out.same fun k hk => B1.out.block k (HH.out.lt k hk)⟩, Keep.of_new B1.out, fun _ h => .inl h⟩⟩
  | some m =>
    rw [hf] at LV
    have T : Hid (s.leaveB = true) := Lib.hid (by unfold Sc.leaveB; rw [hf]; rfl)
    have HF := Lib.hid hf
    clear h hf
    go_enter Try.func19, Try.ntmps19
    go_wp2_with fail
    refine LV.out.mono ?_
    rintro e w1 ⟨va1, F1, rfl, h1, k1, n1⟩
    have H1 := Lib.hid h1
    have K1 := Lib.hid k1
    have N1 := Lib.hid n1
    clear h1 k1 n1
    have FL := Lib.hid (fnd_left HF.out true false)
    obtain ⟨-, q1, -, qf⟩ := H1.out.mcell FL.out
    have f1 := qf 1
    have OKM := Lib.hid (H1.out.ok.each _ (fnd_mem FL.out))
    have P1 : Hid (Trn w sb (s.leave false false) F (w1.setCell ⟨bl m.who, 1, none⟩ (.int .u64 0))) := Lib.hid (by
      rw [leave_zero HF.out]
      have hp := H1.out.put (m := ⟨m.who, m.q, if true = true then m.df else 0, false⟩) (m' := ⟨m.who, m.q, 0, false⟩) FL.out rfl ⟨OKM.out.wf, OKM.out.q0, OKM.out.q1, Int.le_refl _, by show (0 : Int) < _; decide⟩ (w' := w1.setCell ⟨bl m.who, 1, none⟩ (.int .u64 0))
        (hset_at w1 (bl m.who) 1 (.int .u64 0) (H1.out.mem ⟨m.who, m.q, if true = true then m.df else 0, false⟩ (fnd_mem FL.out))) (fun k _ hk => hset_other _ _ _ hk)
      refine ⟨F1, ⟨_, _, _, _, hp⟩, ?_, N1.out⟩
      refine K1.out.setCell _ _ (fun hlt => ?_)
      exact (N1.out _ (H1.out.memF _ (fnd_mem FL.out)).1).elim id (fun hge => absurd hlt (Nat.not_lt.2 hge)))
    clear qf
    go_wp2_with fail
    go_ret
    exact ⟨by rw [T.out]; rfl, P1.out⟩
set_option maxRecDepth 100000 in
theorem active_any {w : World} {sb : Nat} {s : Sc} {F : Nat → Prop} (h : IsSc w sb s F) :
    Calls Try.prog 17 #[.pointer (some ⟨sb, 0, none⟩)] w fun e w' => ∃ v', e = .returned v' ∧ w'.ownsRow w.heap.size 3 1 v' s.act.length (iv s.act) ∧ Below w.heap.size w w' := by
  obtain ⟨mb, D, bl, va, h⟩ := h
  have CL := Lib.hid (clone_any h.act (by have := h.ok.few_act; omega))
  obtain ⟨c0, c1, f1⟩ := h.cells
  obtain ⟨A, c, hva, -⟩ := own_form h.act
  subst hva
  clear h
  go_enter Try.func17, Try.ntmps17
  go_wp2_with fail
  refine CL.out.mono ?_
  rintro e w1 ⟨v', rfl, ho, hb⟩
  have HO := Lib.hid ho
  have HB := Lib.hid hb
  clear ho hb
  go_wp2_with fail
  go_ret
  exact ⟨_, rfl, HO.out, HB.out⟩
end Go.Proofs.Ytliepgmjpbjhfaa.Drr
