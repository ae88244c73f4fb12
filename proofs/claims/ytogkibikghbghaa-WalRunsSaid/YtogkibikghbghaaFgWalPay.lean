/- The wal laws' payload. Conditions: none beyond each lemma's own hypotheses. -/
import Derived.Test.YtogkibikghbghaaFgWalAlive
set_option linter.unusedVariables false
set_option linter.unusedSimpArgs false
namespace Go.Proofs.Ytogkibikghbghaa.Wal
open Go.RowKit Go.Proofs.Ytogkibikghbghaa.Fg Go.Proofs.Ytogkibikghbghaa.Frame Go.Proofs.Ytogkibikghbghaa.Disk Go.Proofs.Ytogkibikghbghaa.Area

/-- How many bytes a payload has, and which. -/
def payN (n : Int) : Nat := (if n < 0 then 0 else if 800 < n then 800 else n).toNat
def payL (n c : Int) : List Int := (List.range (payN n)).map fun (i : Nat) => (c + (i : Int)) % 256
theorem payN_le (n : Int) : payN n ≤ 800 := by unfold payN; split <;> (try split) <;> omega
theorem payL_length (n c : Int) : (payL n c).length = payN n := by simp [payL]
theorem payL_small (n c : Int) : Crc.Small (payL n c) := fun x hx => by
  obtain ⟨i, _, rfl⟩ := List.mem_map.1 hx
  omega

/-- How far the bytes are laid. -/
def payR (n c : Int) (j : Nat) : List Int := (payL n c).take j ++ List.replicate (payN n - j) 0
theorem payR_set {n c : Int} {j : Nat} (hj : j < payN n) : (payR n c j).set j ((c + (j : Int)) % 256) = payR n c (j + 1) := by
  have hl : ((payL n c).take j).length = j := by rw [List.length_take, payL_length]; omega
  have hg : (payL n c)[j]? = some ((c + (j : Int)) % 256) := by simp [payL, hj]
  unfold payR
  rw [List.set_append_right _ _ (by omega), hl, Nat.sub_self, show payN n - j = (payN n - (j + 1)) + 1 by omega, List.replicate_succ, List.set_cons_zero, List.take_add_one, hg]
  simp

theorem make_bytes (C : Int) (n : Nat) (hC : C = n) (hn : n ≤ 1000000) (u : World) : (Instr.makeSlice 37 (.int .i64 C) (.int .i64 C)).run Try.prog u =
    .ok (.slice (some ⟨u.heap.size, 0, none⟩) n n) (u.alloc (.cells (bv (List.replicate n 0)).toArray 5)) := by
  subst hC
  obtain ⟨i0, hi, hz0, hz1, hz2⟩ := info_parts info_u8
  have h := run_make (P := Try.prog) u 37 5 i0 (.int .u8 0) Try.underlying37 hi hz0 .i64 .i64 n n (by omega) (Int.le_refl _) (by rw [hz2]; omega) (by omega)
  have e : (n : Int).toNat = n := by omega
  rw [e] at h
  have e2 : madeCells #[.int .u8 0] n = (bv (List.replicate n 0)).toArray := by
    apply Array.ext
    · simp [madeCells, bv]
    · intro i h1 h2; simp [madeCells, bv, Nat.mod_one]
  rw [← e2]
  simpa [hz1, Value.cells] using h

set_option maxRecDepth 100000 in
theorem payload_new (n c : Int) (w : World) :
    Calls Try.prog 13 #[.int .i64 n, .int .u8 c] w fun e w' =>
      ∃ A, e = .returned (.slice A (payL n c).length (payL n c).length) ∧ Fg.Src w' A (payL n c).length (payL n c).length (bv (payL n c)) ∧ Below w.heap.size w w' ∧ ∀ ad, A = some ad → ad.block = w.heap.size := by
  obtain ⟨m, hm⟩ : ∃ m, payN n = m := ⟨_, rfl⟩
  have hml : m ≤ 800 := hm ▸ payN_le n
  have HC : max 0 (min n 800) = (m : Int) := by
    rw [← hm]; unfold payN; split <;> (try split) <;> omega
  have HM := Lib.hid hm
  have fin : ∀ C : Int, C = m → Hid ((Instr.makeSlice 37 (.int .i64 C) (.int .i64 C)).run Try.prog w = .ok (.slice (some ⟨w.heap.size, 0, none⟩) m m) (w.alloc (.cells (bv (List.replicate m 0)).toArray 5))) := fun C h => Lib.hid (make_bytes C m h (by omega) w)
  rw [payL_length, hm]
  have K0 := Lib.hid (heap_alloc_at w (.cells (bv (List.replicate m 0)).toArray 5))
  have B0 : Hid (Below w.heap.size w (w.alloc (.cells (bv (List.replicate m 0)).toArray 5))) := Lib.hid ((Below.refl _ _).alloc (Nat.le_refl _) _)
  clear hm
  rcases Int.lt_or_le n 0 with h0 | h0
  · have h8 : n < 800 := by omega
    have h8' : n ≤ 800 := by omega
    have h0' : n ≤ 0 := by omega
    have hmk := (fin 0 (by omega)).out
    go_enter Try.func13, Try.ntmps13
    go_wp2_with fail
    clear hmk fin
    go_loopg [13] m (fun k i wr => ∃ j : Nat, j + k = m ∧ i = .int .i64 j ∧ wr.heap[w.heap.size]? = some (.cells (bv (payR n c j)).toArray 5 (0, 0)) ∧ Below w.heap.size w wr)
    case atStart => exact ⟨0, Nat.zero_add _, rfl, by rw [show payR n c 0 = List.replicate m 0 by simp [payR, HM.out]]; exact K0.out, B0.out⟩
    case round =>
      obtain ⟨j, hj, rfl, hr, hb⟩ := hrel
      have R := Lib.hid hr
      have B := Lib.hid hb
      clear hr hb
      by_cases hlt : j < m
      · exfalso; omega
      · obtain rfl : j = m := by omega
        have SF : Hid (Fg.Src wr (some ⟨w.heap.size, 0, none⟩) j j (bv (payL n c))) := Lib.hid (by
          refine ⟨(fun h => by cases h), Nat.le_refl _, by simp only [maxLen]; omega, fun ad had q u hu => ?_⟩
          injection had with had
          subst had
          have e : payR n c j = payL n c := by simp [payR, HM.out, List.take_of_length_le (show (payL n c).length ≤ j by rw [payL_length, HM.out]; omega)]
          rw [Addr.add_lit, Nat.zero_add, cell_of_block R.out, e, List.getElem?_toArray]
          exact hu)
        go_wp2_with fail
        go_ret
        exact ⟨_, rfl, SF.out, B.out, fun ad h => by injection h with h; rw [← h]⟩
  · rcases Int.lt_or_le 800 n with h1 | h1
    · have h8 : ¬ n ≤ 800 := by omega
      have h8' : ¬ n < 800 := by omega
      have h0' : 0 < n := by omega
      have hmk := (fin 800 (by omega)).out
      go_enter Try.func13, Try.ntmps13
      go_wp2_with fail
      clear hmk fin
      go_loopg [13] m (fun k i wr => ∃ j : Nat, j + k = m ∧ i = .int .i64 j ∧ wr.heap[w.heap.size]? = some (.cells (bv (payR n c j)).toArray 5 (0, 0)) ∧ Below w.heap.size w wr)
      case atStart => exact ⟨0, Nat.zero_add _, rfl, by rw [show payR n c 0 = List.replicate m 0 by simp [payR, HM.out]]; exact K0.out, B0.out⟩
      case round =>
        obtain ⟨j, hj, rfl, hr, hb⟩ := hrel
        have R := Lib.hid hr
        have B := Lib.hid hb
        clear hr hb
        by_cases hlt : j < m
        · have hlen : (bv (payR n c j)).toArray.size = m := by simp [bv, payR, payL_length, HM.out]; omega
          obtain ⟨u0, hc⟩ : ∃ u, wr.cell? ⟨w.heap.size, j, none⟩ = some u := ⟨_, (cell_of_block R.out j).trans (Array.getElem?_eq_getElem (by omega))⟩
          have hf := free_of_block R.out j
          have NX : Hid ((wr.setCell ⟨w.heap.size, j, none⟩ (.int .u8 ((c + j) % 256))).heap[w.heap.size]? = some (.cells (bv (payR n c (j + 1))).toArray 5 (0, 0))) := Lib.hid (by
            rw [← payR_set (by rw [HM.out]; exact hlt)]
            have h := hset_at wr w.heap.size j (.int .u8 ((c + j) % 256)) R.out
            simpa [bv, List.map_set] using h)
          have W8 : IntKind.u8.wrap (c + IntKind.u8.wrap j) = (c + j) % 256 := by simp [IntKind.wrap, IntKind.bits, IntKind.signed]
          clear hlen
          go_wp2_with fail
          go_roundg (gk - 1)
          case measure => omega
          case rel => exact ⟨j + 1, by omega, by go_num, by first | exact NX.out | (simpa [W8] using NX.out), B.out.setCell (p := ⟨w.heap.size, j, none⟩) (Nat.le_refl _) _⟩
        · obtain rfl : j = m := by omega
          have SF : Hid (Fg.Src wr (some ⟨w.heap.size, 0, none⟩) j j (bv (payL n c))) := Lib.hid (by
            refine ⟨(fun h => by cases h), Nat.le_refl _, by simp only [maxLen]; omega, fun ad had q u hu => ?_⟩
            injection had with had
            subst had
            have e : payR n c j = payL n c := by simp [payR, HM.out, List.take_of_length_le (show (payL n c).length ≤ j by rw [payL_length, HM.out]; omega)]
            rw [Addr.add_lit, Nat.zero_add, cell_of_block R.out, e, List.getElem?_toArray]
            exact hu)
          go_wp2_with fail
          go_ret
          exact ⟨_, rfl, SF.out, B.out, fun ad h => by injection h with h; rw [← h]⟩
    · have hmk := (fin n (by omega)).out
      rcases Int.lt_or_le 0 n with h2 | h2
      · rcases Int.lt_or_le n 800 with h3 | h3
        · go_enter Try.func13, Try.ntmps13
          go_wp2_with fail
          clear hmk fin
          go_loopg [13] m (fun k i wr => ∃ j : Nat, j + k = m ∧ i = .int .i64 j ∧ wr.heap[w.heap.size]? = some (.cells (bv (payR n c j)).toArray 5 (0, 0)) ∧ Below w.heap.size w wr)
          case atStart => exact ⟨0, Nat.zero_add _, rfl, by rw [show payR n c 0 = List.replicate m 0 by simp [payR, HM.out]]; exact K0.out, B0.out⟩
          case round =>
            obtain ⟨j, hj, rfl, hr, hb⟩ := hrel
            have R := Lib.hid hr
            have B := Lib.hid hb
            clear hr hb
            by_cases hlt : j < m
            · have hlen : (bv (payR n c j)).toArray.size = m := by simp [bv, payR, payL_length, HM.out]; omega
              obtain ⟨u0, hc⟩ : ∃ u, wr.cell? ⟨w.heap.size, j, none⟩ = some u := ⟨_, (cell_of_block R.out j).trans (Array.getElem?_eq_getElem (by omega))⟩
              have hf := free_of_block R.out j
              have NX : Hid ((wr.setCell ⟨w.heap.size, j, none⟩ (.int .u8 ((c + j) % 256))).heap[w.heap.size]? = some (.cells (bv (payR n c (j + 1))).toArray 5 (0, 0))) := Lib.hid (by
                rw [← payR_set (by rw [HM.out]; exact hlt)]
                have h := hset_at wr w.heap.size j (.int .u8 ((c + j) % 256)) R.out
                simpa [bv, List.map_set] using h)
              have W8 : IntKind.u8.wrap (c + IntKind.u8.wrap j) = (c + j) % 256 := by simp [IntKind.wrap, IntKind.bits, IntKind.signed]
              clear hlen
              go_wp2_with fail
              go_roundg (gk - 1)
              case measure => omega
              case rel => exact ⟨j + 1, by omega, by go_num, by first | exact NX.out | (simpa [W8] using NX.out), B.out.setCell (p := ⟨w.heap.size, j, none⟩) (Nat.le_refl _) _⟩
            · obtain rfl : j = m := by omega
              have SF : Hid (Fg.Src wr (some ⟨w.heap.size, 0, none⟩) j j (bv (payL n c))) := Lib.hid (by
                refine ⟨(fun h => by cases h), Nat.le_refl _, by simp only [maxLen]; omega, fun ad had q u hu => ?_⟩
                injection had with had
                subst had
                have e : payR n c j = payL n c := by simp [payR, HM.out, List.take_of_length_le (show (payL n c).length ≤ j by rw [payL_length, HM.out]; omega)]
                rw [Addr.add_lit, Nat.zero_add, cell_of_block R.out, e, List.getElem?_toArray]
                exact hu)
              go_wp2_with fail
              go_ret
              exact ⟨_, rfl, SF.out, B.out, fun ad h => by injection h with h; rw [← h]⟩
        · obtain rfl : n = 800 := by omega
          go_enter Try.func13, Try.ntmps13
          go_wp2_with fail
          clear hmk fin
          go_loopg [13] m (fun k i wr => ∃ j : Nat, j + k = m ∧ i = .int .i64 j ∧ wr.heap[w.heap.size]? = some (.cells (bv (payR 800 c j)).toArray 5 (0, 0)) ∧ Below w.heap.size w wr)
          case atStart => exact ⟨0, Nat.zero_add _, rfl, by rw [show payR 800 c 0 = List.replicate m 0 by simp [payR, HM.out]]; exact K0.out, B0.out⟩
          case round =>
            obtain ⟨j, hj, rfl, hr, hb⟩ := hrel
            have R := Lib.hid hr
            have B := Lib.hid hb
            clear hr hb
            by_cases hlt : j < m
            · have hlen : (bv (payR 800 c j)).toArray.size = m := by simp [bv, payR, payL_length, HM.out]; omega
              obtain ⟨u0, hc⟩ : ∃ u, wr.cell? ⟨w.heap.size, j, none⟩ = some u := ⟨_, (cell_of_block R.out j).trans (Array.getElem?_eq_getElem (by omega))⟩
              have hf := free_of_block R.out j
              have NX : Hid ((wr.setCell ⟨w.heap.size, j, none⟩ (.int .u8 ((c + j) % 256))).heap[w.heap.size]? = some (.cells (bv (payR 800 c (j + 1))).toArray 5 (0, 0))) := Lib.hid (by
                rw [← payR_set (by rw [HM.out]; exact hlt)]
                have h := hset_at wr w.heap.size j (.int .u8 ((c + j) % 256)) R.out
                simpa [bv, List.map_set] using h)
              have W8 : IntKind.u8.wrap (c + IntKind.u8.wrap j) = (c + j) % 256 := by simp [IntKind.wrap, IntKind.bits, IntKind.signed]
              clear hlen
              go_wp2_with fail
              go_roundg (gk - 1)
              case measure => omega
              case rel => exact ⟨j + 1, by omega, by go_num, by first | exact NX.out | (simpa [W8] using NX.out), B.out.setCell (p := ⟨w.heap.size, j, none⟩) (Nat.le_refl _) _⟩
            · obtain rfl : j = m := by omega
              have SF : Hid (Fg.Src wr (some ⟨w.heap.size, 0, none⟩) j j (bv (payL 800 c))) := Lib.hid (by
                refine ⟨(fun h => by cases h), Nat.le_refl _, by simp only [maxLen]; omega, fun ad had q u hu => ?_⟩
                injection had with had
                subst had
                have e : payR 800 c j = payL 800 c := by simp [payR, HM.out, List.take_of_length_le (show (payL 800 c).length ≤ j by rw [payL_length, HM.out]; omega)]
                rw [Addr.add_lit, Nat.zero_add, cell_of_block R.out, e, List.getElem?_toArray]
                exact hu)
              go_wp2_with fail
              go_ret
              exact ⟨_, rfl, SF.out, B.out, fun ad h => by injection h with h; rw [← h]⟩
      · obtain rfl : n = 0 := by omega
        go_enter Try.func13, Try.ntmps13
        go_wp2_with fail
        clear hmk fin
        go_loopg [13] m (fun k i wr => ∃ j : Nat, j + k = m ∧ i = .int .i64 j ∧ wr.heap[w.heap.size]? = some (.cells (bv (payR 0 c j)).toArray 5 (0, 0)) ∧ Below w.heap.size w wr)
        case atStart => exact ⟨0, Nat.zero_add _, rfl, by rw [show payR 0 c 0 = List.replicate m 0 by simp [payR, HM.out]]; exact K0.out, B0.out⟩
        case round =>
          obtain ⟨j, hj, rfl, hr, hb⟩ := hrel
          have R := Lib.hid hr
          have B := Lib.hid hb
          clear hr hb
          by_cases hlt : j < m
          · exfalso; omega
          · obtain rfl : j = m := by omega
            have SF : Hid (Fg.Src wr (some ⟨w.heap.size, 0, none⟩) j j (bv (payL 0 c))) := Lib.hid (by
              refine ⟨(fun h => by cases h), Nat.le_refl _, by simp only [maxLen]; omega, fun ad had q u hu => ?_⟩
              injection had with had
              subst had
              have e : payR 0 c j = payL 0 c := by simp [payR, HM.out, List.take_of_length_le (show (payL 0 c).length ≤ j by rw [payL_length, HM.out]; omega)]
              rw [Addr.add_lit, Nat.zero_add, cell_of_block R.out, e, List.getElem?_toArray]
              exact hu)
            go_wp2_with fail
            go_ret
            exact ⟨_, rfl, SF.out, B.out, fun ad h => by injection h with h; rw [← h]⟩
theorem payload_any (n c : Int) (w : World) :
    Calls Try.prog 13 #[.int .i64 n, .int .u8 c] w fun e w' =>
      ∃ A, e = .returned (.slice A (payL n c).length (payL n c).length) ∧ Fg.Src w' A (payL n c).length (payL n c).length (bv (payL n c)) ∧ Below w.heap.size w w' := by
  refine (payload_new n c w).mono ?_
  rintro e w' ⟨A, h1, h2, h3, -⟩
  exact ⟨A, h1, h2, h3⟩
end Go.Proofs.Ytogkibikghbghaa.Wal
