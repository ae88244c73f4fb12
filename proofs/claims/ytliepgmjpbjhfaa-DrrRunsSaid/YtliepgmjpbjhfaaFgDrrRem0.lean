/- Contract of Remove for one that is no member; the law DrrNames' walk. Conditions: none beyond each lemma's own hypotheses. -/
import Derived.Test.YtliepgmjpbjhfaaFgDrrAlive
set_option linter.unusedVariables false
set_option linter.unusedSimpArgs false
namespace Go.Proofs.Ytliepgmjpbjhfaa.Drr
open Go.RowKit Go.Proofs.Ytliepgmjpbjhfaa.Fg Go.Shelf Go.Maps

theorem enters {P : Program} {f : FuncId} {fn : Func} {c : Code} (hf : P.funcs[f]? = some fn) (hname : (fn.name == "runtime.NumGoroutine") = false) (hb : fn.body = some c) (args : Array Value) (w : World) : (callFunc f args).run P w = .ok (.enter f args) w := by
  have h1 : fn.name ≠ "runtime.NumGoroutine" := by simpa using hname
  simp [callFunc, hf, h1, hb, mark]
theorem rem1_any (x y : Int) (b : Nat) (w : World) (hb : w.cell? ⟨b, 0, none⟩ = some (.int .i64 x)) :
    Calls Try.prog 34 (#[.int .i64 y] ++ #[.pointer (some ⟨b, 0, none⟩)]) w fun e w' => e = .returned (.bool (y == x)) ∧ w = w' := by
  show Calls Try.prog 34 #[.int .i64 y, .pointer (some ⟨b, 0, none⟩)] w _
  go_enter Try.func34, Try.ntmps34
  go_wp2_with fail
  go_ret
  exact ⟨rfl, rfl⟩
/-- The closure that Remove hands on. -/
def remF (b : Nat) : Value := .func (.func 34) #[] #[.pointer (some ⟨b, 0, none⟩)]
set_option maxRecDepth 100000 in
theorem indexFunc_none {w : World} {base : Nat} {va : Value} {l : List Int} {x : Int} {b : Nat} (h : w.ownsRow base 3 1 va l.length (iv l)) (hx : x ∉ l) (hb : w.cell? ⟨b, 0, none⟩ = some (.int .i64 x)) :
    Calls Try.prog 43 #[va, remF b] w fun e w' => e = .returned (.int .i64 (-1)) ∧ w = w' := by
  have hent := fun (args : Array Value) (w : World) => enters (P := Try.prog) Try.func34 (by decide) rfl args w
  have HH := Lib.hid h
  have HX := Lib.hid hx
  have RM := Lib.hid (fun y => rem1_any x y b w hb)
  obtain ⟨A, c, rfl, h1, h2, -⟩ := own_form h
  unfold maxLen at h2
  unfold remF
  clear h hx hb
  go_enter Try.func43, Try.ntmps43
  go_wp2_with fail
  go_loopg [8] l.length (fun k v wr => ∃ j : Nat, j + k = l.length ∧ v = .int .i64 j ∧ w = wr)
  case atStart => exact ⟨0, Nat.zero_add _, rfl, rfl⟩
  case round =>
    obtain ⟨j, hj, rfl, rfl⟩ := hrel
    by_cases hlt : j < l.length
    · have hg : ∃ g c', (Value.slice A l.length c) = .slice (some ⟨g, 0, none⟩) l.length c' ∧ w.cell? ⟨g, j, none⟩ = some (.int .i64 (l[j]'hlt)) := by
        obtain ⟨A', c', he, -, -, h3, h4⟩ := own_form HH.out
        injection he with he _ hc
        subst he hc
        cases A with
        | none => have := (h3 rfl).1; omega
        | some ad =>
          obtain ⟨g, rfl, hg⟩ := h4 ad rfl
          exact ⟨g, c, rfl, hg j _ (by simp [iv, hlt])⟩
      obtain ⟨g, c', he, ca⟩ := hg
      injection he with he _ hc
      subst he hc
      obtain ⟨y, hy⟩ : ∃ y, l[j]'hlt = y := ⟨_, rfl⟩
      have hyx : (y == x) = false := by
        rw [← hy]
        have : l[j]'hlt ≠ x := fun e => HX.out (e ▸ List.getElem_mem hlt)
        simpa using this
      have RY := RM.out y
      rw [hyx] at RY
      have RYH := Lib.hid RY
      rw [hy] at ca
      have hjc : (j : Int) < l.length := by omega
      clear hy RY hyx
      go_wp2_with fail
      refine RYH.out.mono ?_
      rintro e w' ⟨rfl, rfl⟩
      go_wp2_with fail
      go_roundg (gk - 1)
      case measure => omega
      case rel => exact ⟨j + 1, by omega, by go_num, rfl⟩
    · go_wp2_with fail
      go_ret
      exact ⟨rfl, rfl⟩
set_option maxRecDepth 100000 in
theorem deleteFunc_none {w : World} {base : Nat} {va : Value} {l : List Int} {x : Int} {b : Nat} (h : w.ownsRow base 3 1 va l.length (iv l)) (hx : x ∉ l) (hb : w.cell? ⟨b, 0, none⟩ = some (.int .i64 x)) :
    Calls Try.prog 33 #[va, remF b] w fun e w' => e = .returned va ∧ w = w' := by
  have IX := Lib.hid (indexFunc_none h hx hb)
  obtain ⟨A, c, rfl, h1, h2, -⟩ := own_form h
  clear h hx hb
  go_enter Try.func33, Try.ntmps33
  go_wp2_with fail
  refine IX.out.mono ?_
  rintro e w' ⟨rfl, rfl⟩
  go_wp2_with fail
  go_ret
  exact ⟨rfl, rfl⟩
theorem IsS.remap {w w' : World} {sb mb n : Nat} {D D' : DataW Unit} {bl : Int → Nat} {va : Value} {s : Sc} {F : Nat → Prop} (h : IsS w sb mb D bl va s F) (hm : w'.ownsMap Try.prog 3 rdp mb n D') (hi : MapIs D' s.ms bl)
    (hb : ∀ k, k < w.heap.size → k ≠ mb → w'.heap[k]? = w.heap[k]?) (hs : w.heap.size ≤ w'.heap.size) : IsS w' sb mb D' bl va s F :=
  ⟨(hb _ (h.lt _ h.fs.1) h.fs.2.2).trans h.head, tight hm, hi, fun m hm => (hb _ (h.lt _ (h.memF m hm).1) (h.memF m hm).2.2).trans (h.mem m hm), h.inj, h.memF, own_same h.act (fun k hk => hb k (h.lt _ (h.actF k hk).1) (h.actF k hk).2.2.1), h.actF, h.fs,
    fun k hk => Nat.lt_of_lt_of_le (h.lt k hk) hs, h.ok⟩
theorem MapIs.del {D : DataW Unit} {ms : List Mb} {bl : Int → Nat} (h : MapIs D ms bl) (ht : Tidy D) {x : Int} (hx : fnd ms x = none) : MapIs (D.del (ky x)) ms bl := by
  refine ⟨fun y m hy => ?_, fun y hy => ?_, ?_⟩
  · have e : y ≠ x := fun e => by rw [e, hx] at hy; cases hy
    rw [has_del_other (ky_ne e)]
    exact ⟨(h.one y m hy).1, fun z => by rw [atKey_del_other (ky_ne e)]; exact (h.one y m hy).2 z⟩
  · by_cases e : y = x
    · subst e; exact ⟨has_del_same, fun z => atKey_del_same z⟩
    · rw [has_del_other (ky_ne e)]
      exact ⟨(h.no y hy).1, fun z => by rw [atKey_del_other (ky_ne e)]; exact (h.no y hy).2 z⟩
  · have := size_del (k := ky x) ht
    rw [(h.no x hx).1] at this
    have h2 := h.size
    simp at this
    omega
set_option maxRecDepth 100000 in
set_option maxHeartbeats 2000000 in
theorem removeNone_any {w : World} {sb : Nat} {s : Sc} {F : Nat → Prop} (h : IsSc w sb s F) (x : Int) (hx : (Lit.int .i64 x).wf = true) (hf : fnd s.ms x = none) :
    Calls Try.prog 21 #[.pointer (some ⟨sb, 0, none⟩), .int .i64 x] w fun e w' => e = .returned (.bool false) ∧ Trn w sb s F w' := by
  obtain ⟨mb, D, bl, va, h⟩ := h
  have hna : x ∉ s.act := fun hc => by obtain ⟨m, hm⟩ := h.ok.there x hc; rw [hf] at hm; cases hm
  obtain ⟨w1, hw1⟩ : ∃ w1, w.alloc (.cells #[.int .i64 x] 3) = w1 := ⟨_, rfl⟩
  have hB1 : Below w.heap.size w w1 := hw1 ▸ (Below.refl _ _).alloc (Nat.le_refl _) _
  have h1 : IsS w1 sb mb D bl va s F := h.same fun k hk => hB1.block k (h.lt k hk)
  have hab : w1.heap[w.heap.size]? = some (.cells #[.int .i64 x] 3 (0, 0)) := hw1 ▸ heap_alloc_at w _
  have hsz : w.heap.size < w1.heap.size := block_lt hab
  have hd1 : IsS w1.drew sb mb D bl va s F := h1.same fun k hk => rfl
  have hd2 : IsS w1.drew.drew sb mb D bl va s F := h1.same fun k hk => rfl
  have L := (look hd1 x hx).2 hf
  have hk := keyOf_int_mk (P := Try.prog) Try.underlying3 hx
  obtain ⟨w3, hrun, hmap, hturn⟩ := hd2.map.drop keyed Try.underlying61 hk 0
  have hgr := hturn.grown
  have hi3 : IsS w3 sb mb (D.del (ky x)) bl va s F := hd2.remap hmap (h.mapIs.del (h.map.tidy keyed) hf) (fun k hlt hne => hgr.block k hlt (fun e => hne (by injection e))) hgr.size
  have hk3 : Keep F w w3 := (Keep.of_new hB1).trans (((Keep.refl F w1).drew.drew).trans ((keep_grown hgr).mono (T := F) (fun i _ e => by cases e; exact h.fs.2.1)) (fun i _ hi => hi)) (fun i _ hi => hi)
  have ha3 : w3.cell? ⟨w.heap.size, 0, none⟩ = some (.int .i64 x) := (World.cell?_of_block (a := ⟨w.heap.size, 0, none⟩) (hgr.block w.heap.size hsz (fun e => by injection e with e; have := h.lt _ h.fs.2.1; omega))).trans (cell_of_block (w := w1) hab 0)
  obtain ⟨c30, c31, f31⟩ := hi3.cells
  have DF := Lib.hid (deleteFunc_none hi3.act hna ha3)
  obtain ⟨n1, n2, n3⟩ := hi3.newrow (act := s.act) h.ok hi3.act (Keep.refl _ _) (fun k hk => .inl hk)
  have T : Hid (Trn w sb s F (w3.setCell ⟨sb, 1, none⟩ va)) := Lib.hid ⟨_, ⟨_, _, _, _, n1⟩, hk3.trans n2 (fun i _ hi => hi), fun k hk => (n3 k hk).imp id (fun hge => by have := hgr.size; simp at this; omega)⟩
  have d0 : w1.drew.cell? ⟨sb, 0, none⟩ = some (.map (some mb)) := hd1.cells.1
  have d1 : w1.drew.cell? ⟨w.heap.size, 0, none⟩ = some (.int .i64 x) := cell_of_block (w := w1) hab 0
  have e0 : w1.drew.drew.cell? ⟨sb, 0, none⟩ = some (.map (some mb)) := hd1.cells.1
  have e1 : w1.drew.drew.cell? ⟨w.heap.size, 0, none⟩ = some (.int .i64 x) := cell_of_block (w := w1) hab 0
  have hmf : ∀ (fn : Fn) (first cap : Array Value) (w : World), (Instr.makeFunc fn first cap).run Try.prog w = .ok (.func fn first cap) w := fun _ _ _ _ => rfl
  obtain ⟨A, c, hva, -⟩ := own_form h.act
  subst hva
  unfold remF at DF
  clear h h1 hab hd1 hd2 hmap hturn hgr hi3 hk3 n1 n2 n3 hk hna hB1 hsz
  go_enter Try.func21, Try.ntmps21
  go_upto_region 1 with fail
  generalize w.heap.size = ab at *
  go_region_held3 (fun w' => w'.cell? ⟨sb, 0, none⟩ = some (.map (some mb)) ∧ w'.cell? ⟨ab, 0, none⟩ = some (.int .i64 x) ∧ (Instr.lookup 61 (.map (some mb)) (.int .i64 x) true).run Try.prog w' = .ok (.tuple #[.pointer none, .bool false]) w')
    (exact ⟨d0, d1, L⟩) (fail)
  go_upto_region 2 with fail
  go_region_held3 (fun w' => w'.cell? ⟨sb, 0, none⟩ = some (.map (some mb)) ∧ w'.cell? ⟨ab, 0, none⟩ = some (.int .i64 x))
    (first | exact ⟨e0, e1⟩ | exact ⟨c30, ha3⟩) (fail)
  go_wp2_with fail
  refine DF.out.mono ?_
  rintro e w4 ⟨rfl, rfl⟩
  go_wp2_with fail
  go_ret
  exact ⟨rfl, T.out⟩
theorem z1 : Sc.new.spendB 0 = false ∧ Sc.new.leaveB = false ∧ Sc.new.wakeE 1 = 201 ∧ Sc.new.setE 1 0 = 201 ∧ Sc.new.setE 1 281474976710657 = 201 := by decide +kernel
theorem z2 : Sc.new.frontV = .tuple #[.int .i64 0, .int .u64 0, .bool false] := by kernel_rfl
set_option maxRecDepth 100000 in
set_option maxHeartbeats 2000000 in
theorem names_law (W : World) : Calls Try.prog 6 #[] W fun e w' => e = .returned (.bool true) ∧ Below W.heap.size W w' := by
  go_enter Try.func6, Try.ntmps6
  go_wp2_with fail
  refine (new_any W).mono ?_
  rintro e w1 ⟨sb, F1, rfl, h1, b1, f1⟩
  have L1 : Hid (DS W w1 sb Sc.new F1) := Lib.hid (new_ds (Below.refl _ _) h1 b1 f1)
  clear h1 b1 f1
  go_wp2_with fail
  refine (front_any L1.out.1).mono ?_
  rintro e w2 ⟨rfl, t⟩
  obtain ⟨F2, l2⟩ := L1.out.turn t
  have L2 : Hid (DS W w2 sb Sc.new F2) := Lib.hid l2
  rw [z2]
  clear t l2
  go_wp2_with fail
  refine (alive_any w2).mono ?_
  rintro e w3 ⟨rfl, hb3⟩
  have L3 := Lib.hid (L2.out.below hb3)
  clear hb3
  go_wp2_with fail
  refine (spend_any L3.out.1 0 (by decide)).mono ?_
  rintro e w4 ⟨rfl, t⟩
  obtain ⟨F4, l4⟩ := L3.out.turn t
  have L4 : Hid (DS W w4 sb Sc.new F4) := Lib.hid l4
  rw [z1.1]
  clear t l4
  go_wp2_with fail
  refine (next_any L4.out.1).mono ?_
  rintro e w5 ⟨rfl, t⟩
  obtain ⟨F5, l5⟩ := L4.out.turn t
  have L5 : Hid (DS W w5 sb Sc.new F5) := Lib.hid l5
  rw [z1.2.1]
  clear t l5
  go_wp2_with fail
  refine (block_any L5.out.1).mono ?_
  rintro e w6 ⟨rfl, t⟩
  obtain ⟨F6, l6⟩ := L5.out.turn t
  have L6 : Hid (DS W w6 sb Sc.new F6) := Lib.hid l6
  rw [z1.2.1]
  clear t l6
  go_wp2_with fail
  refine (rest_any L6.out.1).mono ?_
  rintro e w7 ⟨rfl, t⟩
  obtain ⟨F7, l7⟩ := L6.out.turn t
  have L7 : Hid (DS W w7 sb Sc.new F7) := Lib.hid l7
  rw [z1.2.1]
  clear t l7
  go_wp2_with fail
  refine (wake_any L7.out.1 1 (by decide)).mono ?_
  rintro e w8 ⟨rfl, t⟩
  obtain ⟨F8, l8⟩ := L7.out.turn t
  have L8 : Hid (DS W w8 sb Sc.new F8) := Lib.hid l8
  rw [z1.2.2.1]
  clear t l8
  go_wp2_with fail
  refine (set_any L8.out.1 1 0 (by decide) (by decide)).mono ?_
  rintro e w9 ⟨rfl, t⟩
  obtain ⟨F9, l9⟩ := L8.out.turn t
  have L9 : Hid (DS W w9 sb Sc.new F9) := Lib.hid l9
  rw [z1.2.2.2.1]
  clear t l9
  go_wp2_with fail
  refine (set_any L9.out.1 1 281474976710657 (by decide) (by decide)).mono ?_
  rintro e w10 ⟨rfl, t⟩
  obtain ⟨F10, l10⟩ := L9.out.turn t
  have L10 : Hid (DS W w10 sb Sc.new F10) := Lib.hid l10
  rw [z1.2.2.2.2]
  clear t l10
  go_wp2_with fail
  refine (removeNone_any L10.out.1 1 (by decide) rfl).mono ?_
  rintro e w11 ⟨rfl, t⟩
  obtain ⟨F11, l11⟩ := L10.out.turn t
  have B := Lib.hid l11.2.1
  clear t l11
  go_wp2_with fail
  go_ret
  exact ⟨rfl, B.out⟩
end Go.Proofs.Ytliepgmjpbjhfaa.Drr
