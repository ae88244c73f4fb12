/- Contracts of slices.Grow and slices.Concat of bytes. Conditions: none beyond each lemma's own hypotheses. -/
import Derived.Test.YtogkibikghbghaaFgBytes
import Derived.Deep.LoopGhost
namespace Go.Proofs.Ytogkibikghbghaa.Fg
open Go.RowKit

/-- A list of slices of bytes, each read so. -/
def Parts (w : World) (A : Option Addr) (c : Nat) (ls : List (List Int)) : Prop :=
  ∃ vs : List Value, vs.length = ls.length ∧ Src w A ls.length c vs ∧ ∀ (j : Nat) (x : Value) (l : List Int), vs[j]? = some x → ls[j]? = some l → ∃ A' c', x = .slice A' l.length c' ∧ Src w A' l.length c' (bv l)
theorem Parts.same {w w' : World} {A : Option Addr} {c : Nat} {ls : List (List Int)} (h : Parts w A c ls) (hb : ∀ k, k < w.heap.size → w'.heap[k]? = w.heap[k]?) : Parts w' A c ls := by
  obtain ⟨vs, h1, h2, h3⟩ := h
  refine ⟨vs, h1, h2.same (fun ad had hne => hb _ (h2.lt had hne)), fun j x l hx hl => ?_⟩
  obtain ⟨A', c', e, h4⟩ := h3 j x l hx hl
  exact ⟨A', c', e, h4.same (fun ad had hne => hb _ (h4.lt had hne))⟩
/-- The part at one place: its slice, in its cell. -/
theorem Parts.at_ {w : World} {A : Option Addr} {c : Nat} {ls : List (List Int)} (h : Parts w A c ls) {j : Nat} (hj : j < ls.length) : ∃ ad A' c', A = some ad ∧ w.cell? (ad.add j) = some (.slice A' ls[j].length c') ∧ Src w A' ls[j].length c' (bv ls[j]) := by
  obtain ⟨vs, hvl, hs, hx⟩ := h
  have hv : j < vs.length := by omega
  obtain ⟨A', c', e, hsrc⟩ := hx j vs[j] ls[j] (List.getElem?_eq_getElem hv) (List.getElem?_eq_getElem hj)
  cases A with
  | none => have := (hs.nil rfl).1; omega
  | some ad => exact ⟨ad, A', c', rfl, by rw [← e]; exact hs.cells ad rfl j vs[j] (List.getElem?_eq_getElem hv), hsrc⟩

/-- Parts that were just laid. -/
theorem parts_new (w : World) (vs : List Value) (ls : List (List Int)) (t : TypeId) (hl : vs.length = ls.length) (hm : ls.length ≤ 1000)
    (h : ∀ (j : Nat) (x : Value) (l : List Int), vs[j]? = some x → ls[j]? = some l → ∃ A' c', x = .slice A' l.length c' ∧ Src w A' l.length c' (bv l)) (fr : Nat × Nat := (0, 0)) :
    Parts (w.alloc (.cells vs.toArray t fr)) (some ⟨w.heap.size, 0, none⟩) ls.length ls := by
  refine ⟨vs, hl, ⟨(fun h => by cases h), Nat.le_refl _, by simp only [maxLen]; omega, fun ad had j u hu => ?_⟩, fun j x l hx hl => ?_⟩
  · injection had with had
    subst had
    rw [Addr.add_lit, Nat.zero_add, cell_of_block (heap_alloc_at w _)]
    simpa using hu
  · obtain ⟨A', c', e, h4⟩ := h j x l hx hl
    exact ⟨A', c', e, h4.same (fun ad had hne => heap_alloc_old _ _ (h4.lt had hne))⟩
theorem parts_one (w : World) (A : Option Addr) (c : Nat) (l : List Int) (t : TypeId) (h : Src w A l.length c (bv l)) : Parts (w.alloc (.cells #[.slice A l.length c] t)) (some ⟨w.heap.size, 0, none⟩) 1 [l] :=
  parts_new w [.slice A l.length c] [l] t rfl (by simp) (fun j x m hx hm => by
    match j, hx, hm with
    | 0, hx, hm =>
      injection hx with hx
      injection hm with hm
      subst hx hm
      exact ⟨A, c, rfl, h⟩)
theorem parts_two (w : World) (A A' : Option Addr) (c c' : Nat) (l l' : List Int) (t : TypeId) (h : Src w A l.length c (bv l)) (h' : Src w A' l'.length c' (bv l')) : Parts (w.alloc (.cells #[.slice A l.length c, .slice A' l'.length c'] t)) (some ⟨w.heap.size, 0, none⟩) 2 [l, l'] :=
  parts_new w [.slice A l.length c, .slice A' l'.length c'] [l, l'] t rfl (by simp) (fun j x m hx hm => by
    match j, hx, hm with
    | 0, hx, hm =>
      injection hx with hx
      injection hm with hm
      subst hx hm
      exact ⟨A, c, rfl, h⟩
    | 1, hx, hm =>
      injection hx with hx
      injection hm with hm
      subst hx hm
      exact ⟨A', c', rfl, h'⟩)

/-- append of so many zeros, onto nothing. -/
theorem run_append_make (P : Program) (w : World) (t u ty e : TypeId) (k : IntKind) (i : TypeInfo) (z : Value) (ht : P.underlying t = some (.slice e)) (hu : P.underlying u = some (.int k)) (hi : P.info? e = some i) (hz : i.zero = some z) (hs : i.size = 1) (hb : i.bytes = 1)
    (n : Nat) (h0 : 0 < n) (h48 : n ≤ 140737488355328) :
    (Builtin.append_ #[t, u] ty #[.slice none 0 0, .int .i64 n]).run P w =
      .ok (.slice (some ⟨w.heap.size, 0, none⟩) n (grownCap w n 0 e)) (w.drew.alloc (.cells (Builtin.zeroCells z.cells n ++ Builtin.zeroCells z.cells (grownCap w n 0 e - n)) e)) := by
  have hn : n ≠ 0 := by omega
  have h1 : IntKind.i64.wrap (n : Int) = n := by rw [IntKind.wrap_i64]; omega
  have h63' : ¬ (9223372036854775807 < (n : Int)) := by omega
  have h2 : ¬ ((n : Int) < 0) := by omega
  have h3 : ¬ (281474976710656 < (n : Int)) := by omega
  have h48' : ¬ (281474976710656 < Builtin.nextslicecap n 0) := by rw [nextslicecap_zero h0]; omega
  simp [Builtin.append_, run_underlying ht, run_underlying hu, sizeOf, typeInfo, zeroValue, hi, hz, hs, hb, Builtin.lenOf, asInt, asIntOf, hn, h1, h2, h3, h63', h48', Question.forced, run_firstCells_none, newRow, grownCap]

theorem wpList_append_make {P : Program} {w : World} {ops : Array Oper} {rest : List Oper} {o : Oper} {a : Act} {Q : Exit → Act → World → Prop} (hgd : o.guard = none) (s x : Operand) (t u : TypeId)
    (ho : o.op = .call { callee := .builtin .append, args := #[s, x], argTypes := #[t, u] }) (e : TypeId) (k : IntKind) (z : Value) (ht : P.underlying t = some (.slice e)) (hu : P.underlying u = some (.int k))
    (hinfo : (P.info? e).map (fun i => (i.zero, i.size, i.bytes)) = some (some z, 1, 1)) (hzs : z.cells.size = 1) (n : Nat) (h0 : 0 < n) (h48 : n ≤ 140737488355328) (hs : a.eval s = .slice none 0 0) (hx : a.eval x = .int .i64 n)
    (h : ∀ (c : Nat) (cur : Array Value), c ≤ maxLen → n ≤ c → cur.size = c → wpList P ops Q rest (a.put o.dst (.slice (some ⟨w.heap.size, 0, none⟩) n c)) (w.drew.alloc (.cells cur e))) : wpList P ops Q (o :: rest) a w := by
  obtain ⟨i, hi, hzz⟩ := Option.map_eq_some_iff.1 hinfo
  simp only [Prod.mk.injEq] at hzz
  obtain ⟨hz0, hz1, hz2⟩ := hzz
  refine wpList_plain hgd fun K hK => ?_
  have hrun := run_append_make P w t u o.type e k i z ht hu hi hz0 hz1 hz2 n h0 h48
  have hge := grownCap_ge w n 0 e
  unfold Oper.wp
  simp only [execOp, ho, resolve, invoke, builtin, Sem.run_bind, Sem.run_pure, Result.andThen_ok, List.map_toArray, List.map_cons, List.map_nil, hs, hx, hrun]
  refine hK _ _ (h _ _ (grownCap_le_maxLen w n 0 e (by simp only [maxLen]; omega)) hge ?_)
  simp only [Array.size_append, size_zeroCells, hzs]
  omega

theorem grow_any (n : Nat) (hn : n ≤ 140737488355328) (w : World) :
    Calls Try.prog 74 #[.slice none 0 0, .int .i64 n] w fun e w' => ∃ v, e = .returned v ∧ w'.ownsRow w.heap.size 5 1 v 0 [] ∧ Below w.heap.size w w' := by
  go_enter Try.func74, Try.ntmps74
  by_cases h0 : n = 0
  · subst h0
    go_wp2
    go_ret
    exact ⟨_, rfl, World.ownsRow_nil _ _ _ _, Below.refl _ _⟩
  · have hpos : 0 < (n : Int) := by omega
    have hpos' : 0 < n := by omega
    clear h0
    go_wp2_with (at_builtin; refine wpList_append_make rfl (.tmp 20) (.tmp 21) 37 3 rfl 5 .i64 (.int .u8 0) Try.underlying37 Try.underlying3 info_u8 (by decide) n hpos' hn rfl rfl ?h1)
    intro c cur hc hnc hcur
    go_wp2
    go_ret
    exact ⟨_, rfl, World.ownsRow_made w.drew cur c (Nat.le_refl _) hc (by omega), ⟨rfl, rfl, rfl, by simp, fun k hk => heap_alloc_old w (.cells cur 5) hk⟩⟩

set_option maxHeartbeats 1000000 in
theorem concat_any (ls : List (List Int)) (hl : ls.length ≤ 1000) (hb : ls.flatten.length ≤ 140737488355328) (A : Option Addr) (c : Nat) (w : World) (hs : Parts w A c ls) :
    Calls Try.prog 60 #[.slice A ls.length c] w fun e w' => ∃ v, e = .returned v ∧ w'.ownsRow w.heap.size 5 1 v ls.flatten.length (bv ls.flatten) ∧ Below w.heap.size w w' := by
  have HS := Lib.hid hs
  clear hs
  have step : ∀ j (h : j < ls.length), (ls.take (j + 1)).flatten = (ls.take j).flatten ++ ls[j] := fun j h => by
    rw [List.take_add_one, List.getElem?_eq_getElem h, List.flatten_append]
    simp only [Option.toList_some, List.flatten_cons, List.flatten_nil, List.append_nil]
  have part : ∀ j, (ls.take j).flatten.length ≤ ls.flatten.length := fun j => by
    have : ls.flatten = (ls.take j).flatten ++ (ls.drop j).flatten := by rw [← List.flatten_append, List.take_append_drop]
    rw [this, List.length_append]
    omega
  have STEP := Lib.hid step
  have PART := Lib.hid part
  clear step part
  go_enter Try.func60, Try.ntmps60
  go_wp2_with fail
  go_loopg [3, 11] ls.length (fun k t i wr => ∃ j m : Nat, j + k = ls.length ∧ i = .int .i64 j ∧ t = .int .i64 m ∧ m = (ls.take j).flatten.length ∧ w = wr)
  case atStart => exact ⟨0, 0, Nat.zero_add _, rfl, rfl, rfl, rfl⟩
  case round =>
    obtain ⟨j, n, hj, rfl, rfl, hn, rfl⟩ := hrel
    by_cases hlt : j < ls.length
    · obtain ⟨ad, A', c', rfl, hc, hsrc⟩ := HS.out.at_ hlt
      have p1 := PART.out (j + 1)
      have e1 : (ls.take (j + 1)).flatten.length = (ls.take j).flatten.length + ls[j].length := by rw [STEP.out j hlt, List.length_append]
      rw [e1] at p1
      have E1 := Lib.hid e1
      have HN := Lib.hid hn
      rw [← hn] at p1
      clear e1 hsrc hn
      generalize ls[j].length = m at *
      go_wp2_with fail
      go_roundg (gk - 1)
      case measure => omega
      case rel => exact ⟨j + 1, n + m, by omega, by go_num, by go_num, by rw [E1.out, HN.out], rfl⟩
    · obtain rfl : j = ls.length := by omega
      rw [List.take_length] at hn
      have HN := Lib.hid hn
      rw [← hn] at hb
      clear hn
      go_wp2_with fail
      refine (grow_any n hb w).mono ?_
      rintro e w1 ⟨v, rfl, hown, hbel⟩
      have HO := Lib.hid hown
      have HB := Lib.hid hbel
      clear hown hbel
      go_wp2_with fail
      go_loopg [6, 27] ls.length (fun k v i w' => ∃ j m : Nat, j + k = ls.length ∧ i = .int .i64 j ∧ w'.ownsRow w.heap.size 5 1 v m (bv (ls.take j).flatten) ∧ m = (ls.take j).flatten.length ∧ Below w.heap.size w w')
      case atStart => exact ⟨0, 0, Nat.zero_add _, rfl, HO.out, rfl, HB.out⟩
      case round =>
        obtain ⟨j, m, hj, rfl, hown, hm, hbel⟩ := hrel
        clear HO HB
        by_cases hlt : j < ls.length
        · obtain ⟨ad, A', c', rfl, hc0, hsrc0⟩ := HS.out.at_ hlt
          have hc := (hbel.cell (p := ad.add j) (World.block_lt_of_cell? _ _ hc0)).trans hc0
          have hsrc : Src wr A' ls[j].length c' (bv ls[j]) := hsrc0.same fun ad had hne => hbel.block _ (hsrc0.lt had hne)
          have p1 := PART.out (j + 1)
          have e1 : (ls.take (j + 1)).flatten.length = (ls.take j).flatten.length + ls[j].length := by rw [STEP.out j hlt, List.length_append]
          have e2 := congrArg bv (STEP.out j hlt)
          rw [bv_append] at e2
          rw [e1, ← hm, ← HN.out] at p1
          have E1 := Lib.hid e1
          have E2 := Lib.hid e2
          have HM := Lib.hid hm
          have HO := Lib.hid hown
          have HSR := Lib.hid hsrc
          have HBL := Lib.hid hbel
          have hsz := hbel.size
          obtain ⟨A6, c6, rfl, -⟩ := own_form hown
          clear e1 e2 hsrc hsrc0 hm hown hbel hc0
          generalize ls[j] = l at *
          go_wp2_with (at_builtin; refine wpList_append_any rfl (.tmp 31) (.tmp 32) 37 rfl w.heap.size 5 (.int .u8 0) 1 1 Try.underlying37 info_u8 rfl (by decide) (by decide) (.slice A6 m c6) m _ rfl HO.out A' l.length c' (bv l) rfl HSR.out ?h3 (bv_one l) ?h4 hsz ?h6)
          case h3 => simp [bv]
          case h4 => omega
          intro v' w2 hown2 hgr2 _ _
          have HO2 := Lib.hid hown2
          have HB2 := Lib.hid (HBL.out.grown hgr2 hsz (fun k hk => (HO.out.lt k hk).1))
          clear hown2 hgr2
          go_wp2_with fail
          go_roundg (gk - 1)
          case measure => omega
          case rel => exact ⟨j + 1, m + l.length, by omega, by go_num, by rw [E2.out]; exact HO2.out, by rw [E1.out, HM.out], HB2.out⟩
        · obtain rfl : j = ls.length := by omega
          rw [List.take_length] at hown hm
          have HO := Lib.hid hown
          have HBL := Lib.hid hbel
          have HM := Lib.hid hm
          clear hown hbel hm
          go_wp2_with fail
          go_ret
          refine ⟨_, rfl, ?_, HBL.out⟩
          rw [← HM.out]
          exact HO.out

end Go.Proofs.Ytogkibikghbghaa.Fg