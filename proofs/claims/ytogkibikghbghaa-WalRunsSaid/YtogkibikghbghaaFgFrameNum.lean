/- Contracts of frame's Size, value, number, and of slices.Backward and slices.ContainsFunc as frame uses them. Conditions: none beyond each lemma's own hypotheses. -/
import Derived.Test.YtogkibikghbghaaFgFramePure
import Derived.RangeFuncBox
import Derived.RangeFuncLeaves
import Derived.OwnWalkIn
import Derived.TacticsInMore
import Derived.LoopNIn
import Derived.LoopIn
import Derived.Laws.BitsLemmas
set_option linter.unusedVariables false
set_option linter.unusedSimpArgs false
namespace Go.Proofs.Ytogkibikghbghaa.Frame
open Go.RowKit Go.Proofs.Ytogkibikghbghaa.Fg Go.Proofs.Ytogkibikghbghaa.Crc Go.Proofs.Ytogkibikghbghaa.Disk

theorem size_any (n : Int) (hn : -9223372036854775808 ≤ n ∧ n ≤ 9223372036854775807) (w : World) :
    Calls Try.prog 45 #[.int .i64 n] w fun e w' => e = .returned (.int .i64 (secs n)) ∧ w' = w := by
  by_cases h0 : n < 0
  · have hs : Hid (secs n = 0) := Lib.hid (if_neg (by omega))
    go_enter Try.func45, Try.ntmps45
    go_wp2_with fail
    go_ret
    exact ⟨by rw [hs.out]; rfl, rfl⟩
  · by_cases h1 : 700 < n
    · have hs : Hid (secs n = 0) := Lib.hid (if_neg (by omega))
      have h0' : 0 ≤ n := by omega
      clear h0
      go_enter Try.func45, Try.ntmps45
      go_wp2_with fail
      go_ret
      exact ⟨by rw [hs.out]; rfl, rfl⟩
    · have hs : Hid (secs n = (n + 81) / 64) := Lib.hid (if_pos (by omega))
      have h0' : 0 ≤ n := by omega
      have h1' : n ≤ 700 := by omega
      clear h0 h1 hn
      go_enter Try.func45, Try.ntmps45
      go_wp2_with fail
      go_ret
      exact ⟨by rw [hs.out]; simp; omega, rfl⟩

theorem shl_or (v c : Int) (h0 : 0 ≤ v) (h1 : v < 72057594037927936) (h2 : 0 ≤ c) (h3 : c ≤ 255) : bits .or .u64 (v * 256) c = v * 256 + c := by
  rw [u64_or _ _ (by omega) (by omega) h2 (by omega)]
  obtain ⟨n, rfl⟩ : ∃ n : Nat, v = n := ⟨v.toNat, by omega⟩
  obtain ⟨m, rfl⟩ : ∃ m : Nat, c = m := ⟨c.toNat, by omega⟩
  have e : ((n : Int) * 256).toNat = n * 256 := by omega
  have e2 : (m : Int).toNat = m := by omega
  rw [e, e2, nat_join 8 (n * 256) m (by omega) (by omega)]
  omega
theorem val_take {l : List Int} (hs : Small l) (h8 : l.length ≤ 8) {j : Nat} (hj : j < l.length) :
    (0 ≤ val (l.take j) ∧ val (l.take j) < 72057594037927936) ∧ (0 ≤ l[j] ∧ l[j] ≤ 255) ∧ val (l.take (j + 1)) = val (l.take j) * 256 + l[j] := by
  have h := val_range j (l.take j) (by rw [List.length_take]; omega) (fun x hx => hs x (List.mem_of_mem_take hx))
  have hp : (256 : Int) ^ j ≤ 256 ^ 7 := by
    have h := Nat.pow_le_pow_right (by decide : 0 < 256) (by omega : j ≤ 7)
    have e : ((256 ^ j : Nat) : Int) = (256 : Int) ^ j := by simp
    have e7 : ((256 ^ 7 : Nat) : Int) = (256 : Int) ^ 7 := by simp
    omega
  refine ⟨⟨h.1, Int.lt_of_lt_of_le h.2 hp⟩, hs _ (List.getElem_mem hj), ?_⟩
  rw [List.take_add_one, List.getElem?_eq_getElem hj]
  exact val_snoc _ _
set_option maxRecDepth 100000 in
theorem value_any (l : List Int) (hb : Small l) (h8 : l.length ≤ 8) (A : Option Addr) (c : Nat) (w : World) (hs : Fg.Src w A l.length c (bv l)) :
    Calls Try.prog 78 #[.slice A l.length c] w fun e w' => e = .returned (.int .u64 (val l)) ∧ w' = w := by
  have HS := Lib.hid hs
  have HV : Hid (∀ j (hj : j < l.length), (0 ≤ val (l.take j) ∧ val (l.take j) < 72057594037927936) ∧ (0 ≤ l[j] ∧ l[j] ≤ 255) ∧ val (l.take (j + 1)) = val (l.take j) * 256 + l[j]) := Lib.hid (fun j hj => val_take hb h8 hj)
  clear hs hb
  go_enter Try.func78, Try.ntmps78
  go_wp2_with fail
  go_loopg [3, 8] l.length (fun k v i wr => ∃ j : Nat, j + k = l.length ∧ i = .int .i64 j ∧ v = .int .u64 (val (l.take j)) ∧ wr = w)
  case atStart => exact ⟨0, Nat.zero_add _, rfl, rfl, rfl⟩
  case round =>
    obtain ⟨j, hj, rfl, rfl, rfl⟩ := hrel
    by_cases hlt : j < l.length
    · obtain ⟨ad, rfl, hc⟩ := src_byte HS.out hlt
      obtain ⟨⟨p0, p1⟩, ⟨q0, q1⟩, hv⟩ := HV.out j hlt
      have ho := shl_or _ _ p0 p1 q0 q1
      have HVN := Lib.hid hv
      clear hv
      generalize l[j] = x at *
      generalize val (l.take j) = v at *
      go_wp2_with fail
      go_roundg (gk - 1)
      case measure => omega
      case rel => exact ⟨j + 1, by omega, by go_num, by rw [HVN.out, ← ho], rfl⟩
    · obtain rfl : j = l.length := by omega
      rw [List.take_length]
      go_wp2_with fail
      go_ret
      exact ⟨rfl, rfl⟩

/-! slices.Backward, from the last one on: a body may write the slice. -/
/-- k - 1, .., 0. -/
def downto : Nat → List Nat
  | 0 => []
  | k + 1 => k :: downto k
theorem downto_length : ∀ k, (downto k).length = k
  | 0 => rfl
  | k + 1 => by rw [downto, List.length_cons, downto_length k]
def wstep (s : List Int × Int) (i : Nat) : List Int × Int := (s.1.set i (s.2 % 256), s.2 / 256)
theorem fold_be : ∀ (k : Nat) (X : List Int) (n : Int), k ≤ X.length → ((downto k).foldl wstep (X, n)).1 = be k n ++ X.drop k
  | 0, X, n, _ => by simp [downto, be]
  | k + 1, X, n, h => by
    rw [downto, List.foldl_cons, wstep, fold_be k _ _ (by simp; omega), be]
    have e : (X.set k (n % 256)).drop k = n % 256 :: X.drop (k + 1) := by
      rw [List.set_eq_take_append_cons_drop, if_pos (by omega), List.drop_append, List.drop_of_length_le (by rw [List.length_take]; omega), List.length_take,
        show k - min k X.length = 0 by omega]
      rfl
    rw [e]
    simp
/-- A place of a slice, and what lay there. -/
abbrev Ix (len : Nat) := { x : Nat × Int // x.1 < len }
def encB {len : Nat} (x : Ix len) : Array Value := #[.int .i64 (x.1.1 : Int), .int .u8 x.1.2]
/-- What a round that goes on keeps: the slice's box, and that its cells hold bytes. -/
def BackK (Bs b len : Nat) (W W' : World) : Prop :=
  W'.cell? ⟨Bs, 0, none⟩ = W.cell? ⟨Bs, 0, none⟩ ∧ ∀ j, j < len → (∃ v, W.cell? ⟨b, j, none⟩ = some (.int .u8 v)) → ∃ v, W'.cell? ⟨b, j, none⟩ = some (.int .u8 v)
theorem BackK.refl {Bs b len : Nat} (W : World) : BackK Bs b len W W := ⟨rfl, fun _ _ h => h⟩
theorem BackK.trans {Bs b len : Nat} {X Y Z : World} (h : BackK Bs b len X Y) (k : BackK Bs b len Y Z) : BackK Bs b len X Z := ⟨k.1.trans h.1, fun j hj hv => k.2 j hj (h.2 j hj hv)⟩
theorem backK_b {Bs b len : Nat} {w : World} (h1 : Bs < w.heap.size) (h2 : b < w.heap.size) (W : World) (l : Nat) (o o' : Obj) (hl : w.heap.size ≤ l) (h : W.heap[l]? = some o) (_ : o.isCells = false) (_ : o.isWalk = false) : BackK Bs b len W (W.putObj l o') := by
  have e : ∀ k, k < w.heap.size → (W.putObj l o').heap[k]? = W.heap[k]? := fun k hk => World.putObj_heap_other (by omega)
  exact ⟨World.cell?_of_block (e _ h1), fun j _ hv => by rw [World.cell?_of_block (a := ⟨b, j, none⟩) (e _ h2)]; exact hv⟩

attribute [local go_sem] Oper.semAt_some
set_option maxRecDepth 100000 in
set_option maxHeartbeats 2000000 in
theorem back1_in (n : Nat) (hn : 1 ≤ n) (l Bs b len : Nat) (hreach : len ≤ 140737488351232) (J Jx : List (Ix len) → World → Prop)
    (hY : ∀ pre x W, J pre W → pre.length < len → YieldAt Fence.wide (n - 1) Try.prog l (encB x) W fun e W' =>
      (e = .returned (.bool true) ∧ J (pre ++ [x]) W' ∧ BackK Bs b len W W') ∨ (e = .returned (.bool false) ∧ Jx (pre ++ [x]) W'))
    (W : World) (hBs : W.cell? ⟨Bs, 0, none⟩ = some (.slice (some ⟨b, 0, none⟩) len len)) (hc : ∀ j, j < len → ∃ v, W.cell? ⟨b, j, none⟩ = some (.int .u8 v)) (h0 : J [] W) :
    CallsIn Fence.wide n Try.prog 83 #[.func (.yield l) #[] #[], .pointer (some ⟨Bs, 0, none⟩)] W fun e W' => (∃ v, e = .returned v) ∧
      ((∃ xs : List (Ix len), xs.map (·.1.1) = downto len ∧ J xs W') ∨ (∃ pre, True ∧ Jx pre W')) := by
  have HY := Lib.hid hY
  have HC := Lib.hid hc
  have HBS := Lib.hid hBs
  clear hY hc
  refine callsIn_of_wp Try.func83 rfl trivial ?_ rfl
  simp only [Try.ntmps83, List.size_toArray, List.length_cons, List.length_nil, Nat.reduceAdd, Nat.reduceSub, Array.replicate_succ, Array.replicate_zero, List.push_toArray, List.append_toArray, List.nil_append, List.cons_append]
  gi_wp2
  clear hBs
  gi_loopw [3] (fun i wr => ∃ (k : Nat) (pre : List (Ix len)), k ≤ len ∧ i = .int .i64 ((k : Int) - 1) ∧ pre.map (·.1.1) ++ downto k = downto len ∧ J pre wr ∧ BackK Bs b len W wr)
    (fun i _ => (intOf i + 1).toNat)
  case atStart => exact ⟨len, [], Nat.le_refl _, by simp, rfl, h0, BackK.refl _⟩
  case round =>
    obtain ⟨k, pre, hk, rfl, hp, hJs, hbk⟩ := hrel
    have hbs : wr.cell? ⟨Bs, 0, none⟩ = some (.slice (some ⟨b, 0, none⟩) len len) := hbk.1.trans HBS.out
    have HP := Lib.hid hp
    have HBK := Lib.hid hbk
    clear hp hbk
    cases k with
    | zero =>
      gi_wp2
      go_end0
      exact ⟨⟨_, rfl⟩, .inl ⟨pre, by have := HP.out; simpa [downto] using this, hJs⟩⟩
    | succ k =>
      have hlen : pre.length < len := by
        have := congrArg List.length HP.out
        rw [List.length_append, List.length_map, downto_length, downto_length] at this
        omega
      obtain ⟨v, hv⟩ := HBK.out.2 k (by omega) (HC.out k (by omega))
      obtain ⟨fn, tmps, assign, body, hy, hR⟩ := HY.out pre ⟨(k, v), by omega⟩ wr hJs hlen
      simp only [encB] at hy hR
      have HR := Lib.hid hR
      clear hR
      have e1 : ((k + 1 : Nat) : Int) - 1 = (k : Int) := by omega
      rw [e1]
      clear e1
      gi_wp2
      refine HR.out.mono ?_
      rintro e W3 (⟨rfl, hJ3, hk3⟩ | ⟨rfl, hJx3⟩)
      · gi_wp2
        go_roundw
        case rel => exact ⟨k, pre ++ [⟨(k, v), by omega⟩], by omega, rfl, by have := HP.out; simpa [downto] using this, hJ3, HBK.out.trans hk3⟩
        case measure => simp [intOf]
      · gi_wp2
        refine bodyPost_ret (results_none rfl _ _ _) rfl ?_
        exact ⟨⟨_, rfl⟩, .inr ⟨_, trivial, hJx3⟩⟩

theorem backward_any (A : Option Addr) (n c : Nat) (w : World) : Calls Try.prog 75 #[.slice A n c] w fun e w' =>
    e = .returned (.func (.func 83) #[] #[.pointer (some ⟨w.heap.size, 0, none⟩)]) ∧ w' = w.alloc (.cells #[.slice A n c] 37) := by
  go_enter Try.func75, Try.ntmps75
  go_wp2_with fail
  go_ret
  exact ⟨rfl, rfl⟩
theorem back_stops (n : Nat) (hn : 1 ≤ n) (Bs b len : Nat) (hreach : len ≤ 140737488351232) (w : World) (hB : Bs < w.heap.size) (hb : b < w.heap.size)
    (hBs : w.cell? ⟨Bs, 0, none⟩ = some (.slice (some ⟨b, 0, none⟩) len len)) (hc : ∀ j, j < len → ∃ v, w.cell? ⟨b, j, none⟩ = some (.int .u8 v)) :
    SeqStopsK Fence.wide n Try.prog 83 #[.pointer (some ⟨Bs, 0, none⟩)] (encB (len := len)) (BackK Bs b len) (fun xs => xs.map (·.1.1) = downto len) (fun _ => True) len w :=
  fun l J Jx W hW _ _ hY h0 => back1_in n hn l Bs b len hreach J Jx hY W ((hW.cell (p := ⟨Bs, 0, none⟩) hB).trans hBs) (fun j hj => by
    obtain ⟨v, hv⟩ := hc j hj
    exact ⟨v, (hW.cell (p := ⟨b, j, none⟩) hb).trans hv⟩) h0

theorem enters {P : Program} {f : FuncId} {fn : Func} {c : Code} (hf : P.funcs[f]? = some fn) (hname : (fn.name == "runtime.NumGoroutine") = false) (hb : fn.body = some c) (args : Array Value) (w : World) : (callFunc f args).run P w = .ok (.enter f args) w := by
  have h1 : fn.name ≠ "runtime.NumGoroutine" := by simpa using hname
  simp [callFunc, hf, h1, hb, mark]
/-- A block of cells lies as it lay where a block that is no cells has turned. -/
theorem cells_kept {W W' : World} {row : Option Nat} {b : Nat} {cs : Array Value} {t : TypeId} {fr : Nat × Nat} (h : W.heap[b]? = some (.cells cs t fr)) (hg : W.grownBy W' row)
    (hr : ∀ r, row = some r → ∃ o : Obj, W.heap[r]? = some o ∧ o.isCells = false) : W'.heap[b]? = some (.cells cs t fr) := by
  refine (hg.block b (block_lt h) (fun e => ?_)).trans h
  obtain ⟨o, ho, hc⟩ := hr b e.symm
  rw [h] at ho
  cases ho
  cases hc

/-- What number has done when so many places have come. -/
def NumI (w : World) (k : Nat) (n : Int) (pre : List (Ix k)) (W : World) : Prop :=
  ∃ X m, (pre.map (·.1.1)).foldl wstep (List.replicate k 0, n) = (X, m) ∧ X.length = k ∧ (0 ≤ m ∧ m < 18446744073709551616) ∧ W.heap[w.heap.size]? = some (.cells #[.int .u64 m] 29 (0, 0)) ∧
    W.heap[w.heap.size + 1]? = some (.cells (bv X).toArray 5 (0, 0)) ∧ W.heap[w.heap.size + 2]? = some (.cells #[.slice (some ⟨w.heap.size + 1, 0, none⟩) k k] 37 (0, 0)) ∧ Below w.heap.size w W

theorem make_by (n : Nat) (hn : n ≤ 1000000) (u : World) : (Instr.makeSlice 37 (.int .i64 n) (.int .i64 n)).run Try.prog u =
    .ok (.slice (some ⟨u.heap.size, 0, none⟩) n n) (u.alloc (.cells (bv (List.replicate n 0)).toArray 5)) := by
  obtain ⟨i0, hi, hz0, hz1, hz2⟩ := info_parts info_u8
  have h := run_make (P := Try.prog) u 37 5 i0 (.int .u8 0) Try.underlying37 hi hz0 .i64 .i64 n n (by omega) (Int.le_refl _) (by rw [hz2]; omega) (by omega)
  have e : (n : Int).toNat = n := by omega
  have e2 : madeCells #[Value.int .u8 0] n = (bv (List.replicate n 0)).toArray := by
    apply Array.ext'
    simp [madeCells, bv, List.map_replicate]
    apply List.ext_getElem
    · simp
    · intro i h1 h2
      simp [Nat.mod_one]
  rw [e] at h
  rw [← e2]
  simpa [hz1, Value.cells] using h

set_option maxRecDepth 100000 in
set_option maxHeartbeats 2000000 in
theorem number_any (n : Int) (h0 : 0 ≤ n) (h1 : n < 18446744073709551616) (k : Nat) (hk : 0 < k) (hk8 : k ≤ 8) (w : World) :
    Calls Try.prog 61 #[.int .u64 n, .int .i64 k] w fun e w' => ∃ A c, e = .returned (.slice A k c) ∧ w'.ownsRow w.heap.size 5 1 (.slice A k c) k (bv (be k n)) ∧ Below w.heap.size w w' := by
  have hmk := fun u => make_by k (by omega) u
  refine (callsIn_wide (n := 5)).1 ?_
  refine callsIn_of_wp_marks Try.func61 rfl trivial ?_ rfl
  simp only [Try.ntmps61, List.size_toArray, List.length_cons, List.length_nil, Nat.reduceAdd, Nat.reduceSub, Array.replicate_succ, Array.replicate_zero, List.push_toArray, List.append_toArray, List.nil_append, List.cons_append]
  gi_wp2_with (refine ⟨trivial, ?_⟩; gi_at_call 75; refine (callsIn_wide.2 (backward_any _ _ _ _)).mono ?_; rintro e w' ⟨rfl, rfl⟩)
  obtain ⟨w1, hw1⟩ : ∃ w1, w.alloc (.cells #[.int .u64 n] 29) = w1 := ⟨_, rfl⟩
  obtain ⟨w2, hw2⟩ : ∃ w2, w1.alloc (.cells (bv (List.replicate k 0)).toArray 5) = w2 := ⟨_, rfl⟩
  obtain ⟨w3, hw3⟩ : ∃ w3, w2.alloc (.cells #[.slice (some ⟨w.heap.size + 1, 0, none⟩) k k] 37) = w3 := ⟨_, rfl⟩
  obtain ⟨w4, hw4⟩ : ∃ w4, w3.alloc (.cells #[.slice (some ⟨w.heap.size + 1, 0, none⟩) k k] 37) = w4 := ⟨_, rfl⟩
  rw [hw1, hw2, hw3, hw4]
  have s1 : w1.heap.size = w.heap.size + 1 := by rw [← hw1]; simp
  have s2 : w2.heap.size = w.heap.size + 2 := by rw [← hw2]; simp [s1]
  have s3 : w3.heap.size = w.heap.size + 3 := by rw [← hw3]; simp [s2]
  have s4 : w4.heap.size = w.heap.size + 4 := by rw [← hw4]; simp [s3]
  have g0 : w4.heap[w.heap.size]? = some (.cells #[.int .u64 n] 29 (0, 0)) := by
    rw [← hw4, heap_alloc_old _ _ (by omega), ← hw3, heap_alloc_old _ _ (by omega), ← hw2, heap_alloc_old _ _ (by omega), ← hw1]; exact heap_alloc_at w _
  have g1 : w4.heap[w.heap.size + 1]? = some (.cells (bv (List.replicate k 0)).toArray 5 (0, 0)) := by
    rw [← hw4, heap_alloc_old _ _ (by omega), ← hw3, heap_alloc_old _ _ (by omega), ← hw2, ← s1]; exact heap_alloc_at w1 _
  have g2 : w4.heap[w.heap.size + 2]? = some (.cells #[.slice (some ⟨w.heap.size + 1, 0, none⟩) k k] 37 (0, 0)) := by
    rw [← hw4, heap_alloc_old _ _ (by omega), ← hw3, ← s2]; exact heap_alloc_at w2 _
  have g3 : w4.heap[w.heap.size + 3]? = some (.cells #[.slice (some ⟨w.heap.size + 1, 0, none⟩) k k] 37 (0, 0)) := by
    rw [← hw4, ← s3]; exact heap_alloc_at w3 _
  have gb : Below w.heap.size w w4 := by
    rw [← hw4, ← hw3, ← hw2, ← hw1]; exact ((((Below.refl _ _).alloc (Nat.le_refl _) _).alloc (by simp) _).alloc (by simp; omega) _).alloc (by simp; omega) _
  have G3 := cell_of_block g3 0
  have G1 : ∀ j, j < k → ∃ v, w4.cell? ⟨w.heap.size + 1, j, none⟩ = some (.int .u8 v) := fun j hj => ⟨0, by rw [cell_of_block g1]; simp [bv, hj]⟩
  clear hw1 hw2 hw3 hw4 s1 s2 s3
  refine wpIn_rangeFunc_ownF rfl (by decide) (gf := 83) (lb := #[.pointer (some ⟨w.heap.size + 3, 0, none⟩)]) rfl trivial (enters Try.func83 (by decide) rfl)
    (back_stops (5 - 1) (by decide) (w.heap.size + 3) (w.heap.size + 1) k (by omega) w4 (by omega) (by omega) G3 G1) (fun h k => h.trans k) (backK_b (by omega) (by omega)) (Below.refl _ _) (fun _ => rfl)
    (NumI w k n) (fun _ _ _ => False) ?own (fun _ _ _ _ _ h _ _ => h.elim) ?start
    (fun x => { tmps := #[.int .u64 n, .int .i64 k, .pointer (some ⟨w.heap.size, 0, none⟩), undef, .slice none 0 0, .pointer (some ⟨w.heap.size + 1 + 1, 0, none⟩), .int .i64 (x.1.1 : Int), .int .i64 k,
      .slice (some ⟨w.heap.size + 1, 0, none⟩) k k, .slice (some ⟨w.heap.size + 1, 0, none⟩) k k, .func (.func 83) #[] #[.pointer (some ⟨w.heap.size + 1 + 1 + 1, 0, none⟩)], .int .i64 (x.1.1 : Int), .int .u8 x.1.2,
      undef, undef, undef, undef, undef, undef, undef, undef], defers := [] }) ?assign ?body ?done ?stop
  case own =>
    intro pre W W' row ⟨X, m, e1, e2, e3, a0, a1, a2, ab⟩ hg hr
    have hr' : ∀ r, row = some r → ∃ o : Obj, W.heap[r]? = some o ∧ o.isCells = false := fun r e => (hr r e).2
    exact ⟨X, m, e1, e2, e3, cells_kept a0 hg hr', cells_kept a1 hg hr', cells_kept a2 hg hr', ab.grown hg ab.size (fun q e => by have := (hr q e).1; omega)⟩
  case start => exact ⟨_, _, rfl, by simp, ⟨h0, h1⟩, g0, g1, g2, gb⟩
  case assign =>
    intro l x W K hK
    simp only [encB]
    gi_wp2
    exact hK
  case body =>
    rintro l pre ⟨⟨x, v⟩, hx⟩ W ⟨X, m, e1, e2, ⟨m0, m1⟩, a0, a1, a2, ab⟩ _
    have c0 := cell_of_block a0 0
    have c2 := cell_of_block a2 0
    have hxX : x < X.length := by omega
    have c1 : W.cell? ⟨w.heap.size + 1, x, none⟩ = some (.int .u8 X[x]) := by rw [cell_of_block a1]; simp [bv, hxX]
    have f0 := free_of_block a0 0
    have f1 := free_of_block a1 x
    have hE1 := Lib.hid e1
    have hA0 := Lib.hid a0
    have hA1 := Lib.hid a1
    have hA2 := Lib.hid a2
    have hAB := Lib.hid ab
    clear e1 a0 a1 a2 ab g0 g1 g2 g3 gb G1 G3
    simp only at hx
    have hx' : x < k := hx
    gi_wp2
    refine ⟨(KeepsOthers.setCell _ _ _).trans (KeepsOthers.setCell _ _ _), ⟨?_, ?_⟩, X.set x (m % 256), m / 256, ?_, by simpa using e2, ⟨by omega, by omega⟩, ?_, ?_, ?_, ?_⟩
    · rw [World.cell?_of_block (hset_other _ ⟨w.heap.size, 0, none⟩ _ (by show w.heap.size + 3 ≠ w.heap.size; omega)), World.cell?_of_block (hset_other _ ⟨w.heap.size + 1, x, none⟩ _ (by show w.heap.size + 3 ≠ w.heap.size + 1; omega))]
    · intro j hj _
      rw [World.cell?_of_block (a := ⟨w.heap.size + 1, j, none⟩) (hset_other _ ⟨w.heap.size, 0, none⟩ _ (by show w.heap.size + 1 ≠ w.heap.size; omega)), cell_of_block (hset_at _ _ _ _ hA1.out)]
      rw [Array.getElem?_setIfInBounds]
      split
      · split
        · exact ⟨_, rfl⟩
        · rename_i h; exact absurd (by simp [bv]; omega) h
      · exact ⟨X[j]'(by omega), by simp [bv, show j < X.length by omega]⟩
    · rw [List.map_append, List.foldl_append, hE1.out]; rfl
    · exact hset_at _ _ 0 _ ((hset_other _ ⟨w.heap.size + 1, x, none⟩ _ (by show w.heap.size ≠ w.heap.size + 1; omega)).trans hA0.out)
    · rw [hset_other _ ⟨w.heap.size, 0, none⟩ _ (by show w.heap.size + 1 ≠ w.heap.size; omega), hset_at _ _ _ _ hA1.out]
      simp [bv, List.map_set]
    · rw [hset_other _ ⟨w.heap.size, 0, none⟩ _ (by show w.heap.size + 2 ≠ w.heap.size; omega), hset_other _ ⟨w.heap.size + 1, x, none⟩ _ (by show w.heap.size + 2 ≠ w.heap.size + 1; omega), hA2.out]
    · exact (hAB.out.setCell (p := ⟨w.heap.size + 1, x, none⟩) (by show w.heap.size ≤ w.heap.size + 1; omega) _).setCell (p := ⟨w.heap.size, 0, none⟩) (Nat.le_refl _) _
  case done =>
    rintro D xs W hD hxs ⟨X, m, e1, e2, ⟨m0, m1⟩, a0, a1, a2, ab⟩ hK
    have hX : X = be k n := by
      have h := fold_be k (List.replicate k 0) n (by simp)
      rw [← hxs, e1] at h
      simpa using h
    subst hX
    have c2 := cell_of_block a2 0
    have hA1 := Lib.hid a1
    have hAB := Lib.hid ab
    clear e1 a0 a1 a2 ab g0 g1 g2 g3 gb G1 G3 hxs
    gi_wp2
    refine ⟨by simp, .inl ⟨_, _, rfl, run_takeDeferred hK, ?_⟩⟩
    have hk2 : (W.putObj D (Obj.deferred none)).heap[w.heap.size + 1]? = some (.cells (bv (be k n)).toArray 5 (0, 0)) := (World.putObj_heap_other (by omega)).trans hA1.out
    refine ⟨_, results_tmp rfl _ _ _, some ⟨w.heap.size + 1, 0, none⟩, k, rfl, ⟨by simp [bv, be_length], .inr ⟨w.heap.size + 1, k, _, rfl, by omega, hk2, Nat.le_refl _, by simp only [maxLen]; omega, by simp [bv, be_length], by rw [List.take_of_length_le (by simp [bv, be_length])]⟩⟩,
      hAB.out.trans (belowK_b (w := w) (Nat.le_refl _) W D _ _ (by omega) hK rfl rfl)⟩
  case stop =>
    rintro D c pre W _ _ h _
    exact h.elim

theorem nonzero_any (c : Int) (w : World) : Calls Try.prog 81 #[.int .u8 c] w fun e w' => e = .returned (.bool (!(c == 0))) ∧ w = w' := by
  go_enter Try.func81, Try.ntmps81
  go_wp2_with fail
  go_ret
  exact ⟨rfl, rfl⟩
def allNil (l : List Int) : Bool := l.all (fun c => c == 0)
/-- The first one that is not nought; -1: all are. -/
def firstNot : Nat → List Int → Int
  | _, [] => -1
  | k, x :: r => if x == 0 then firstNot (k + 1) r else k
theorem firstNot_iff : ∀ (l : List Int) (k : Nat), (decide (0 ≤ firstNot k l)) = !(allNil l)
  | [], k => by simp [firstNot, allNil]
  | x :: r, k => by
    have ih := firstNot_iff r (k + 1)
    unfold firstNot
    cases h : (x == 0)
    · simp [allNil, h]
    · simp only [allNil, List.all_cons, h, Bool.true_and, if_true]
      exact ih
theorem firstNot_range : ∀ (l : List Int) (k : Nat), -1 ≤ firstNot k l ∧ firstNot k l < k + l.length
  | [], k => by simp [firstNot]; omega
  | x :: r, k => by
    have ih := firstNot_range r (k + 1)
    unfold firstNot
    split
    · simp only [List.length_cons]; omega
    · simp only [List.length_cons]; omega
set_option maxRecDepth 100000 in
theorem index_any (l : List Int) (hl : l.length ≤ 140737488355328) (A : Option Addr) (c : Nat) (w : World) (hs : Fg.Src w A l.length c (bv l)) :
    Calls Try.prog 88 #[.slice A l.length c, .func (.func 81) #[] #[]] w fun e w' => e = .returned (.int .i64 (firstNot 0 l)) ∧ w = w' := by
  have hent := fun (args : Array Value) (w : World) => enters (P := Try.prog) Try.func81 (by decide) rfl args w
  have HS := Lib.hid hs
  clear hs
  go_enter Try.func88, Try.ntmps88
  go_wp2_with fail
  go_loopg [8] l.length (fun k i wr => ∃ j : Nat, j + k = l.length ∧ i = .int .i64 j ∧ firstNot 0 l = firstNot j (l.drop j) ∧ w = wr)
  case atStart => exact ⟨0, Nat.zero_add _, rfl, rfl, rfl⟩
  case round =>
    obtain ⟨j, hj, rfl, hf, rfl⟩ := hrel
    by_cases hlt : j < l.length
    · obtain ⟨ad, rfl, hc⟩ := src_byte HS.out hlt
      have hd : l.drop j = l[j] :: l.drop (j + 1) := List.drop_eq_getElem_cons hlt
      rw [hd, firstNot] at hf
      generalize l[j] = x at *
      by_cases hx : (x == 0) = true
      · rw [if_pos hx] at hf
        have HF := Lib.hid hf
        have hxb : (!(x == 0)) = false := by rw [hx]; rfl
        have HX := Lib.hid hxb
        clear hf hd hx hxb
        go_wp2_with fail
        refine (nonzero_any x w).mono ?_
        rintro e w' ⟨rfl, rfl⟩
        rw [HX.out]
        go_wp2_with fail
        go_roundg (gk - 1)
        case measure => omega
        case rel => exact ⟨j + 1, by omega, by go_num, HF.out, rfl⟩
      · rw [if_neg hx] at hf
        have HF := Lib.hid hf
        have hxb : (!(x == 0)) = true := by simpa using hx
        have HX := Lib.hid hxb
        clear hf hd hx hxb
        go_wp2_with fail
        refine (nonzero_any x w).mono ?_
        rintro e w' ⟨rfl, rfl⟩
        rw [HX.out]
        go_wp2_with fail
        go_ret
        exact ⟨by rw [HF.out]; rfl, rfl⟩
    · obtain rfl : j = l.length := by omega
      rw [List.drop_length, firstNot] at hf
      have HF := Lib.hid hf
      clear hf
      go_wp2_with fail
      go_ret
      exact ⟨by rw [HF.out]; rfl, rfl⟩

theorem contains_any (l : List Int) (hl : l.length ≤ 140737488355328) (A : Option Addr) (c : Nat) (w : World) (hs : Fg.Src w A l.length c (bv l)) :
    Calls Try.prog 80 #[.slice A l.length c, .func (.func 81) #[] #[]] w fun e w' => e = .returned (.bool (!(allNil l))) ∧ w = w' := by
  have HI := Lib.hid (firstNot_iff l 0)
  have h1 := firstNot_range l 0
  go_enter Try.func80, Try.ntmps80
  go_wp2_with fail
  refine (index_any l hl A c w hs).mono ?_
  rintro e w' ⟨rfl, rfl⟩
  generalize firstNot 0 l = f at *
  go_wp2_with fail
  go_ret
  exact ⟨by rw [← HI.out]; rfl, rfl⟩
end Go.Proofs.Ytogkibikghbghaa.Frame
