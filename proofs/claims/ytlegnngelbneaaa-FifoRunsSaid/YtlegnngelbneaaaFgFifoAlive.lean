/- The example of the fifo layer, which each of its laws asks for first, and the acts that a law is given. Conditions: none beyond each lemma's own hypotheses. -/
import Derived.Test.YtlegnngelbneaaaFgQueue2
namespace Go.Proofs.Ytlegnngelbneaaa.Fifo
open Go.RowKit Go.Proofs.Ytlegnngelbneaaa.Fg Go.ChangeShapes Go.WideShapes Go.ChangeAt

theorem isq_alloc {w : World} {g lb cap : Nat} {ls : List (List Int)} {F : Nat → Prop} (h : IsQ w g lb cap ls F) (o : Obj) : IsQ (w.alloc o) g lb cap ls F :=
  h.same fun _ hk => heap_alloc_old w o (h.lt _ hk)

set_option maxHeartbeats 1000000 in
theorem alive_any (w : World) : Calls Try.prog 7 #[] w fun e w' => e = .returned (.bool true) ∧ Below w.heap.size w w' := by
  have kc := fun (w : World) (C : Array Value) (n c : Nat) => Lib.run_convert_bytes_const (P := Try.prog) w 27 5 C n c Try.underlying27 Try.underlying5
  go_enter Try.func7, Try.ntmps7
  go_wp2_with fail
  refine (newq 1 1 w (by decide)).mono ?_
  rintro e w1 ⟨g, lb, F, rfl, hq, hb, hF⟩
  have HQ := Lib.hid hq
  have HB := Lib.hid hb
  have HF := Lib.hid hF
  clear hq hb hF
  go_wp2_with fail
  have hq1 := isq_alloc HQ.out (.cells #[.int .u8 97] 5 (1, 2))
  refine (push_in hq1 [97] _ 1 (src_const w1 [97] (1, 2) (by decide)) (by decide) (by decide)).mono ?_
  rintro e w2 ⟨rfl, F2, hq2, hk2, hF2⟩
  have HQ2 := Lib.hid hq2
  have HK2 := Lib.hid hk2
  have HF2 := Lib.hid hF2
  clear hq1 hq2 hk2 hF2
  go_wp2_with fail
  have hq3 := isq_alloc HQ2.out (.cells #[.int .u8 98] 5 (1, 2))
  refine (push_out hq3 [98] _ 1 (src_const w2 [98] (1, 2) (by decide)) (by decide) (by decide)).mono ?_
  rintro e w3 ⟨rfl, F3, hq4, hk3, hF3⟩
  have HQ3 := Lib.hid hq4
  have HK3 := Lib.hid hk3
  have HF3 := Lib.hid hF3
  clear hq3 hq4 hk3 hF3
  go_wp2_with fail
  refine (popq_some HQ3.out).mono ?_
  rintro e w4 ⟨A, c, rfl, hq5, hk4, ho, -⟩
  have HQ4 := Lib.hid hq5
  have HK4 := Lib.hid hk4
  have HO := Lib.hid ho
  clear hq5 hk4 ho
  go_wp2_with fail
  refine (popq_none HQ4.out).mono ?_
  rintro e w5 ⟨rfl, hq6, hk5⟩
  have ho5 := own_keep HO.out hk5 (HQ4.out.row_ne HO.out)
  have hstr : (convert 27 9 (.slice A 1 c)).run Try.prog w5 = .ok (.string (strOfNums [97])) w5 := str_run [97] A c w5 (Src.of_own ho5)
  have hs1 : (strOfNums [97]).toList = [97] := by decide +kernel
  have HQ5 := Lib.hid hq6
  have HK5 := Lib.hid hk5
  clear hq6 hk5 ho5
  go_wp2_with fail
  refine (len_any HQ5.out).mono ?_
  rintro e w6 ⟨rfl, rfl⟩
  go_wp2_with fail
  go_ret
  refine ⟨rfl, ?_⟩
  have hF := HF.out
  have hb := HB.out
  have k1 : Keep (fun k => w.heap.size ≤ k) w w1 := Keep.of_below hb
  have k2 := (k1.alloc (.cells #[.int .u8 97] 5 (1, 2))).trans HK2.out (fun i _ hi => by rcases hi with rfl | rfl; exact hF _ HQ.out.self; exact hF _ HQ.out.ex.choose_spec.choose_spec.2.2.2.1)
  have k3 := (k2.alloc (.cells #[.int .u8 98] 5 (1, 2))).trans HK3.out (fun i _ hi => by rcases hi with rfl | rfl; exact hF _ HQ.out.self; exact hF _ HQ.out.ex.choose_spec.choose_spec.2.2.2.1)
  have k4 := k3.trans HK4.out (fun i _ hi => by rcases hi with rfl | rfl; exact hF _ HQ.out.self; exact hF _ HQ.out.ex.choose_spec.choose_spec.2.2.2.1)
  have k5 := k4.trans HK5.out (fun i _ hi => by rcases hi with rfl | rfl; exact hF _ HQ.out.self; exact hF _ HQ.out.ex.choose_spec.choose_spec.2.2.2.1)
  exact k5.below (Nat.le_refl _) (fun i hi => hi)

/-- The acts that a law is given: a kind, and bytes. -/
structure Acts (W : World) (A : Option Addr) (acts : List (Int × List Int)) : Prop where
  nil : A = none → acts = []
  at_ : ∀ (i : Nat) (k : Int) (l : List Int), acts[i]? = some (k, l) → ∃ (b o : Nat) (A' : Option Addr) (c : Nat), A = some ⟨b, o, none⟩ ∧ W.cell? ⟨b, o + i * 2, none⟩ = some (.int .i64 k) ∧
    W.cell? ⟨b, o + i * 2 + 1, none⟩ = some (.slice A' l.length c) ∧ Src W A' l.length c (bv l) ∧ l.length ≤ 140737488355328 ∧ b < W.heap.size ∧ (∀ x ∈ l, 0 ≤ x ∧ x ≤ 255)
theorem Acts.below {W w : World} {A : Option Addr} {acts : List (Int × List Int)} (h : Acts W A acts) (hb : Below W.heap.size W w) : Acts w A acts :=
  ⟨h.nil, fun i k l hi => by
    obtain ⟨b, o, A', c, h1, h2, h3, h4, h5, h6, h7⟩ := h.at_ i k l hi
    exact ⟨b, o, A', c, h1, (hb.cell (p := ⟨b, o + i * 2, none⟩) h6).trans h2, (hb.cell (p := ⟨b, o + i * 2 + 1, none⟩) h6).trans h3, h4.same (fun ad had hne => hb.block _ (h4.lt had hne)), h5, by have := hb.size; omega, h7⟩⟩

theorem open_acts {H : Type} {enc : TypeId × Value → H} {w : World} {spare : Nat → Bool} {held : Bool} {v : Value} {d : DataW H} {p : List MemPlace} {b0 : Nat} {r : Reach}
    (hv : Value.okWide Try.prog w r b0 22 v) (h : DataW.Trod enc Try.prog w 0 spare held 22 v d p) (hw : ∀ n ∈ d.weights Try.prog 22, n ≤ reachBytes) :
    ∃ (A : Option Addr) (c : Nat) (acts : List (Int × List Int)), v = .slice A acts.length c ∧ acts.length ≤ c ∧ Acts w A acts ∧ acts.length ≤ reachBytes := by
  obtain ⟨a0, len0, cap0, rfl⟩ := okWide_slice Try.underlying22 hv
  obtain ⟨fuel, hf⟩ := h
  have hf' : DataW.trod enc Try.prog w 0 spare held fuel 22 [.slice a0 len0 cap0] = some (d, p) := hf
  rcases Deep.open_slice_pairs Try.underlying22 Try.underlying29 (by kernel_rfl) rfl rfl (by kernel_rfl) (by kernel_rfl) hf' with ⟨hcs, _⟩ | ⟨a, len, cap, m, n, V0, V1, D0, D1, P0, P1, hcs, _, hl, hm, hmm, hx, hel⟩
  · injection hcs with hcs
    rw [hcs]
    exact ⟨none, 0, [], rfl, Nat.le_refl _, ⟨fun _ => rfl, fun i k l hi => by simp at hi⟩, by simp⟩
  · injection hcs with hcs
    rw [hcs]
    have hlm : len ≤ m := by rw [hmm]; split <;> omega
    have hd : d = .slice ((List.range len).map fun i => .agg [D0 i, D1 i]) ((List.range (m - len)).map fun j => .agg [D0 (len + j), D1 (len + j)]) := congrArg Prod.fst hx
    have hb : Try.prog.bytesOf 29 = 32 := by kernel_rfl
    have hwl : len ≤ reachBytes := by
      have : (len + (m - len)) * 32 ≤ reachBytes := by
        refine hw _ ?_
        subst hd
        simp only [DataW.weights, Try.underlying22, hb, List.length_map, List.length_range]
        exact List.mem_cons_self
      omega
    have each : ∀ i, i < len → ∃ q : Int × List Int, V0 i = .int .i64 q.1 ∧ ∃ (A' : Option Addr) (c : Nat), V1 i = .slice A' q.2.length c ∧ Src w A' q.2.length c (bv q.2) ∧ q.2.length ≤ reachBytes ∧ (∀ x ∈ q.2, 0 ≤ x ∧ x ≤ 255) := by
      intro i hi
      obtain ⟨_, _, t0, t1⟩ := hel i (by omega)
      obtain ⟨k, e0, _, _⟩ := DataW.trod_int Try.underlying3 t0
      have e0' : V0 i = .int .i64 k := by simpa using e0
      have hws : ∀ n ∈ (D1 i).weights Try.prog 27, n ≤ reachBytes := by
        intro n hn
        refine hw _ ?_
        subst hd
        simp only [DataW.weights, Try.underlying22]
        refine List.mem_cons_of_mem _ (List.mem_append_left _ ?_)
        have mem : ∀ (l : List Nat), i ∈ l → n ∈ DataW.weightsAll Try.prog 29 (l.map fun i => .agg [D0 i, D1 i]) := by
          intro l
          induction l with
          | nil => intro h; cases h
          | cons x l ih =>
            intro h
            simp only [List.map_cons, DataW.weightsAll]
            rcases List.mem_cons.1 h with rfl | h
            · refine List.mem_append_left _ ?_
              simp only [DataW.weights, Try.underlying29, DataW.weightsEach, List.map_cons, List.map_nil]
              exact List.mem_append_right _ (List.mem_append_left _ hn)
            · exact List.mem_append_right _ (ih h)
        exact mem _ (by simpa using hi)
      obtain ⟨A', c, l, e1, e2, e3, e4⟩ := open_bytes (y := (D1 i, P1 i)) t1 hws
      exact ⟨(k, l), e0', A', c, e1, e2, e3, e4⟩
    obtain ⟨Q, hQ⟩ := Deep.choose_lt (α := Int × List Int) (p := fun i q => V0 i = .int .i64 q.1 ∧ ∃ (A' : Option Addr) (c : Nat), V1 i = .slice A' q.2.length c ∧ Src w A' q.2.length c (bv q.2) ∧ q.2.length ≤ reachBytes ∧ (∀ x ∈ q.2, 0 ≤ x ∧ x ≤ 255)) each
    refine ⟨some a, cap, (List.range len).map Q, by simp, by simpa using hl, ⟨(fun h => by cases h), fun i k l hi => ?_⟩, by simpa using hwl⟩
    have hi' : i < len := by
      have := (List.getElem?_eq_some_iff.1 hi).1
      simpa using this
    have hq : Q i = (k, l) := by simpa [List.getElem?_map, List.getElem?_range hi'] using hi
    obtain ⟨q0, A', c, q1, q2, q3, q4⟩ := hQ i hi'
    obtain ⟨c0, c1, _, _⟩ := hel i (by omega)
    rw [hq] at q0 q1 q2 q3 q4
    rw [q0] at c0
    rw [q1] at c1
    have hspot : a.spot = none := by
      obtain ⟨z0, _, _, _⟩ := hel 0 (by omega)
      simp only [Nat.zero_mul, Addr.add_zero'] at z0
      unfold World.cell? at z0
      split at z0
      · by_cases hs : a.spot.isSome = true
        · rw [if_pos hs] at z0; cases z0
        · cases hsp : a.spot with
          | none => rfl
          | some x => rw [hsp] at hs; exact absurd rfl hs
      · cases z0
    obtain ⟨b, o, s⟩ := a
    simp only at hspot
    subst hspot
    rw [Addr.add_lit] at c0 c1
    rw [← Nat.add_assoc] at c1
    refine ⟨b, o, A', c, rfl, c0, c1, q2, ?_, World.block_lt_of_cell? w _ c0, q4⟩
    have h1 := reachBytes_lt
    have h2 : l.length ≤ reachBytes := q3
    omega

end Go.Proofs.Ytlegnngelbneaaa.Fifo
