/- Contracts of the document's answers for the fifo layer. Conditions: none beyond each lemma's own hypotheses. -/
import Derived.Test.YtlegnngelbneaaaFgFifoOrder
namespace Go.Proofs.Ytlegnngelbneaaa.Ref19
open Go.RowKit Go.Proofs.Ytlegnngelbneaaa.Fg Go.Proofs.Ytlegnngelbneaaa.Fifo Go.ChangeShapes Go.WideShapes Go.ChangeAt

def capOf (most : Int) : Int := if most < 0 then 0 else if 64 < most then 64 else most
theorem new_any (most : Int) (w : World) : Calls Try.prog 14 #[.int .i64 most] w fun e w' => e = .returned (.agg #[.int .i64 (capOf most), .slice none 0 0]) ∧ Below w.heap.size w w' := by
  unfold capOf
  by_cases h : most < 0
  · rw [if_pos h]
    go_enter Try.func14, Try.ntmps14
    go_wp2_with fail
    exact bodyPost_ret (v := .agg #[.int .i64 0, .slice none 0 0]) (by simp [results, Try.results14, go_sem]) rfl ⟨rfl, (Below.refl _ _).alloc (Nat.le_refl _) _⟩
  · rw [if_neg h]
    by_cases h2 : 64 < most
    · rw [if_pos h2]
      go_enter Try.func14, Try.ntmps14
      go_wp2_with fail
      exact bodyPost_ret (v := .agg #[.int .i64 64, .slice none 0 0]) (by simp [results, Try.results14, go_sem]) rfl ⟨rfl, (Below.refl _ _).alloc (Nat.le_refl _) _⟩
    · rw [if_neg h2]
      go_enter Try.func14, Try.ntmps14
      go_wp2_with fail
      exact bodyPost_ret (v := .agg #[.int .i64 most, .slice none 0 0]) (by simp [results, Try.results14, go_sem]) rfl ⟨rfl, (Below.refl _ _).alloc (Nat.le_refl _) _⟩

/-- How many bytes: a loop over the list. -/
theorem bytes_any (B : Nat) (most : Int) (A : Option Addr) (c : Nat) (vs : List Value) (ls : List (List Int)) (w : World) (h : Fifo.Rows B w (.slice A ls.length c) vs ls) (hn : ls.length ≤ 1000) (hs : ∀ l ∈ ls, l.length ≤ 140737488355328) :
    Calls Try.prog 18 #[.agg #[.int .i64 most, .slice A ls.length c]] w fun e w' => e = .returned (.int .i64 (tot ls)) ∧ Below w.heap.size w w' := by
  have HR := Lib.hid h
  have HS := Lib.hid hs
  clear h hs
  go_enter Try.func18, Try.ntmps18
  go_wp2_with fail
  go_loop [3, 9] (fun n i => ∃ j : Nat, j ≤ ls.length ∧ i = .int .i64 j ∧ n = .int .i64 (tot (ls.take j))) (fun _ i => ls.length - (intOf i).toNat)
  case atStart => exact ⟨0, Nat.zero_le _, rfl, by simp [tot]⟩
  case round =>
    obtain ⟨j, hj, rfl, rfl⟩ := hrel
    by_cases hlt : j < ls.length
    · obtain ⟨l, hl⟩ : ∃ l, ls[j]? = some l := ⟨_, List.getElem?_eq_getElem hlt⟩
      have hvl : vs.length = ls.length := by have := HR.out.own.1; omega
      obtain ⟨x, hx⟩ : ∃ x, vs[j]? = some x := ⟨_, List.getElem?_eq_getElem (by omega)⟩
      obtain ⟨A1, c1, rfl, -, -⟩ := HR.out.each j x l hx hl
      obtain ⟨A2, c2, e2, -, -, n2, s2⟩ := own_form HR.out.own
      injection e2 with e2 e2n e2'
      clear e2n
      subst e2 e2'
      cases A with
      | none => have := (n2 rfl).1; omega
      | some ad =>
        obtain ⟨g, rfl, k2⟩ := s2 ad rfl
        have z := (heap_alloc_old w (.cells #[.int .i64 most, .slice (some ⟨g, 0, none⟩) ls.length c] 38) (World.block_lt_of_cell? w _ (k2 j _ hx)))
        have z2 : (w.alloc (.cells #[.int .i64 most, .slice (some ⟨g, 0, none⟩) ls.length c] 38)).cell? ⟨g, j, none⟩ = some (.slice A1 l.length c1) := (World.cell?_of_block z).trans (k2 j _ hx)
        have hts : tot (ls.take (j + 1)) = tot (ls.take j) + l.length := by
          rw [← tot_snoc]
          congr 1
          rw [List.take_succ_eq_append_getElem hlt]
          have := List.getElem?_eq_getElem hlt
          rw [hl] at this
          injection this with this
          rw [this]
        have tb := tot_bound (ls := ls.take j) (fun x hx => HS.out x (List.mem_of_mem_take hx))
        have tl : (ls.take j).length ≤ 1000 := by rw [List.length_take]; omega
        have t1 : tot (ls.take j) ≤ 140737488355328000 := by omega
        have t0 : 0 ≤ tot (ls.take j) := tb.1
        have tm := HS.out l (List.mem_of_getElem? hl)
        have HT := Lib.hid hts
        clear hts z k2 s2 n2 tb hl hx hvl tl
        go_wp2_with fail
        go_round
        case rel => exact ⟨j + 1, by omega, by go_num, by rw [HT.out]⟩
        case measure => simp [intOf]; omega
    · have e : ls.take j = ls := List.take_of_length_le (by omega)
      rw [e]
      go_wp2_with fail
      go_ret
      exact ⟨rfl, (Below.refl _ _).alloc (Nat.le_refl _) _⟩

/-- What a Push leaves: a line of its own, in new memory. -/
def Pushed (w : World) (most : Int) (vs : List Value) (ls : List (List Int)) (l : List Int) (e : Ending) (w' : World) : Prop :=
  ∃ A c A1 c1, e = .returned (.tuple #[.agg #[.int .i64 most, .slice A (ls ++ [l]).length c], .int .i64 0]) ∧ Below w.heap.size w w' ∧ Fifo.Rows w.heap.size w' (.slice A (ls ++ [l]).length c) (vs ++ [.slice A1 l.length c1]) (ls ++ [l]) ∧ ∀ ad, A1 = some ad → w.heap.size ≤ ad.block ∧ ad.block < w'.heap.size
theorem src_of_rows {B : Nat} {w : World} {A : Option Addr} {n c : Nat} {vs : List Value} {ls : List (List Int)} (h : Fifo.Rows B w (.slice A n c) vs ls) (hn : ls.length = n) : Src w A n c vs := by
  subst hn; exact Src.of_own h.own
theorem rows_one {B : Nat} {w : World} {v : Value} {vs : List Value} {ls : List (List Int)} (h : Fifo.Rows B w v vs ls) : ∀ u ∈ vs, u.oneCell' = true := by
  intro u hu
  obtain ⟨j, hj⟩ := List.mem_iff_getElem?.1 hu
  have hl : vs.length = ls.length := by have := h.own.1; omega
  have hj' := (List.getElem?_eq_some_iff.1 hj).1
  obtain ⟨A, c, rfl, -⟩ := h.each j u _ hj (List.getElem?_eq_getElem (by omega : j < ls.length))
  rfl

theorem push_full (most : Int) (A : Option Addr) (n c : Nat) (v : Value) (w : World) (hv : ∃ A' n' c', v = .slice A' n' c') (h : most ≤ n) :
    Calls Try.prog 15 #[.agg #[.int .i64 most, .slice A n c], v] w fun e w' => e = .returned (.tuple #[.agg #[.int .i64 most, .slice A n c], .int .i64 191]) ∧ Below w.heap.size w w' := by
  obtain ⟨A', n', c', rfl⟩ := hv
  go_enter Try.func15, Try.ntmps15
  go_wp2_with fail
  exact bodyPost_ret (v := .tuple #[.agg #[.int .i64 most, .slice A n c], .int .i64 191]) (by simp [results, Try.results15, go_sem]) rfl ⟨rfl, ((Below.refl _ _).alloc (Nat.le_refl _) _).alloc (by simp) _⟩

/-- A row stays as it is where blocks are added, and rows of its own are written. -/
theorem rows_grown {B : Nat} {w w' : World} {v : Value} {vs : List Value} {ls : List (List Int)} {row : Option Nat} (h : Fifo.Rows B w v vs ls) (hg : w.grownBy w' row) (hB : B ≤ w.heap.size) (hr : ∀ k, row = some k → w.heap.size ≤ k ∨ (B ≤ k ∧ (∃ cs t fr, w.heap[k]? = some (.cells cs t fr) ∧ t ≠ 5) ∧ ¬ v.ownBlock = some k)) :
    Fifo.Rows B w' v vs ls := by
  have hk : Keep (fun k => row = some k ∧ k < w.heap.size) w w' := ⟨hg.os, hg.tape, hg.output, hg.size, fun k hk hn => hg.block k hk (fun e => hn ⟨e.symm, hk⟩)⟩
  refine h.keep hk hB (fun k hk => ?_) (fun k hv hk => ?_)
  · rcases hr k hk.1 with h1 | h1
    · omega
    · exact ⟨h1.1, h1.2.1⟩
  · rcases hr k hk.1 with h1 | h1
    · omega
    · exact h1.2.2 hv

set_option maxHeartbeats 2000000 in
theorem push_room (B : Nat) (most : Int) (A A0 : Option Addr) (c c0 : Nat) (vs : List Value) (ls : List (List Int)) (l : List Int) (w : World) (h : Fifo.Rows B w (.slice A ls.length c) vs ls) (hB : B ≤ w.heap.size) (hs : Src w A0 l.length c0 (bv l)) (hl : l.length ≤ 2000) (hn : ls.length ≤ 1000) (hm : (ls.length : Int) < most) :
    Calls Try.prog 15 #[.agg #[.int .i64 most, .slice A ls.length c], .slice A0 l.length c0] w (Pushed w most vs ls l) := by
  have HR := Lib.hid h
  have HS := Lib.hid hs
  clear h hs
  obtain ⟨W1, hW1⟩ : ∃ W1, W1 = (w.alloc (.cells #[.int .i64 most, .slice A ls.length c] 38)).alloc (.cells #[.int .i64 0, .slice none 0 0] 38) := ⟨_, rfl⟩
  have s1 : W1.heap.size = w.heap.size + 2 := by rw [hW1]; simp
  have b0 : W1.heap[w.heap.size]? = some (.cells #[.int .i64 most, .slice A ls.length c] 38 (0, 0)) := by
    rw [hW1, heap_alloc_old _ _ (by simp)]; exact heap_alloc_at w _
  have b1 : W1.heap[w.heap.size + 1]? = some (.cells #[.int .i64 0, .slice none 0 0] 38 (0, 0)) := by
    rw [hW1]; simpa using heap_alloc_at (w.alloc (.cells #[.int .i64 most, .slice A ls.length c] 38)) (.cells #[.int .i64 0, .slice none 0 0] 38)
  have bel1 : Below w.heap.size w W1 := by rw [hW1]; exact ((Below.refl _ _).alloc (Nat.le_refl _) _).alloc (by simp) _
  have r1 : Fifo.Rows B W1 (.slice A ls.length c) vs ls := HR.out.keep (S := fun _ => False) (by rw [hW1]; exact ((Keep.refl _ _).alloc _).alloc _) hB (fun _ h => h.elim) (fun _ _ h => h)
  have src1 : Src W1 A0 l.length c0 (bv l) := HS.out.same fun ad had hne => bel1.block _ (HS.out.lt had hne)
  have W1E := Lib.hid hW1
  have B0 := Lib.hid b0
  have B1 := Lib.hid b1
  have BE1 := Lib.hid bel1
  have R1 := Lib.hid r1
  have S1 := Lib.hid src1
  have Z1 := Lib.hid s1
  clear hW1 b0 b1 bel1 r1 src1 s1
  go_enter Try.func15, Try.ntmps15
  go_wp2_with (at_builtin; refine wpList_append_any rfl (.tmp 14) (.tmp 16) 26 rfl w.heap.size 27 (.slice none 0 0) 1 24 Try.underlying26 info_bytes rfl (by decide) (by decide) (.slice (some ⟨w.heap.size + 2, 0, none⟩) 0 0) 0 [] rfl ?a1 A ls.length c vs rfl ?a2 ?a3 (rows_one HR.out) ?a5 ?a6 ?a7)
  case a1 =>
    rw [← W1E.out]
    have := World.ownsRow_made (base := w.heap.size) (e := 27) (size := 1) W1 #[] 0 (by rw [Z1.out]; omega) (Nat.zero_le _) rfl
    rw [Z1.out] at this
    exact this
  case a2 => rw [← W1E.out]; exact (src_of_rows R1.out rfl).same fun ad had hne => heap_alloc_old _ _ ((src_of_rows R1.out rfl).lt had hne)
  case a3 => have := HR.out.own.1; omega
  case a5 => omega
  case a6 => simp; omega
  intro v6 w2 hown2 hgr2 _ hat2
  rw [← W1E.out] at hgr2
  have e2 : W1.heap.size = w.heap.size + 2 := Z1.out
  have hz2 : w.heap.size + 3 ≤ w2.heap.size := by have := hgr2.size; simp at this; omega
  have B02 : w2.heap[w.heap.size]? = some (.cells #[.int .i64 most, .slice A ls.length c] 38 (0, 0)) := by
    rw [hgr2.block _ (by simp; omega) (by simp [Value.ownBlock]), heap_alloc_old _ _ (by omega)]; exact B0.out
  have B12 : w2.heap[w.heap.size + 1]? = some (.cells #[.int .i64 0, .slice none 0 0] 38 (0, 0)) := by
    rw [hgr2.block _ (by simp; omega) (by simp [Value.ownBlock]), heap_alloc_old _ _ (by omega)]; exact B1.out
  have BE2 : Below w.heap.size w w2 := (BE1.out.alloc (by omega) (.cells #[] 27)).trans ⟨hgr2.os, hgr2.tape, hgr2.output, hgr2.size, fun k hk => hgr2.block k (by simp; omega) (by simp [Value.ownBlock]; omega)⟩
  have src2 : Src w2 A0 l.length c0 (bv l) := HS.out.same fun ad had hne => BE2.block _ (HS.out.lt had hne)
  have each2 : ∀ (j : Nat) (x : Value) (m : List Int), vs[j]? = some x → ls[j]? = some m → RdF w.heap.size w2 x m := by
    intro j x m hx hm
    obtain ⟨A1, c1, rfl, h2, h3⟩ := HR.out.each j x m hx hm
    have hbl : bv m ≠ [] → m ≠ [] := fun h e => h (by rw [e]; rfl)
    have hbl' : m ≠ [] → bv m ≠ [] := fun h e => h (by simpa [bv] using e)
    exact ⟨A1, c1, rfl, h2.same (fun ad had hne => BE2.block _ (h2.lt had hne)), fun hne ad had => .inl (h2.lt had (hbl' hne))⟩
  have E2 := Lib.hid each2
  have HO2 := Lib.hid hown2
  have HG2 := Lib.hid hgr2
  have HB02 := Lib.hid B02
  have HB12 := Lib.hid B12
  have HBE2 := Lib.hid BE2
  have HS2 := Lib.hid src2
  have v6lt := Lib.hid (fun k hk => hown2.lt k hk)
  have v6ge : ∀ k, v6.ownBlock = some k → w.heap.size + 2 ≤ k := by
    intro k hk
    rcases hat2 with h | h
    · rw [h] at hk; injection hk with hk; simp only at hk; omega
    · rw [h] at hk; injection hk with hk; first | omega | (simp at hk; omega)
  have V6 := Lib.hid v6ge
  clear v6ge
  obtain ⟨A6, c6, rfl, -⟩ := own_form hown2
  clear each2 hown2 hgr2 hat2 B02 B12 BE2 src2 e2
  go_wp2_with (at_builtin; refine wpList_append_any rfl (.tmp 19) (.tmp 20) 27 rfl w.heap.size 5 (.int .u8 0) 1 1 Try.underlying27 info_u8 rfl (by decide) (by decide) (.slice (some ⟨w2.heap.size, 0, none⟩) 0 0) 0 [] rfl ?b1 A0 l.length c0 (bv l) rfl ?b2 ?b3 (bv_one l) ?b5 ?b6 ?b7)
  case b1 => exact World.ownsRow_made (base := w.heap.size) (e := 5) (size := 1) w2 #[] 0 (by omega) (Nat.zero_le _) rfl
  case b2 => exact HS2.out.same fun ad had hne => heap_alloc_old _ _ (HS2.out.lt had hne)
  case b3 => simp [bv]
  case b5 => omega
  case b6 => simp; omega
  intro v21 w3 hown3 hgr3 _ hat3
  have hz3 : w2.heap.size + 1 ≤ w3.heap.size := by have := hgr3.size; simpa using this
  have old3 : ∀ k, k < w2.heap.size → w3.heap[k]? = w2.heap[k]? := fun k hk => by
    rw [hgr3.block k (by simp; omega) (by simp [Value.ownBlock]; omega), heap_alloc_old _ _ hk]
  have K3 : Hid (Keep (fun _ => False) w2 w3) := Lib.hid ⟨hgr3.os, hgr3.tape, hgr3.output, by omega, fun k hk _ => old3 k hk⟩
  have O3 := Lib.hid old3
  have HO3 := Lib.hid hown3
  obtain ⟨A21, c21, rfl, -⟩ := own_form hown3
  have BE3 : Below w.heap.size w w3 := HBE2.out.trans ⟨hgr3.os, hgr3.tape, hgr3.output, by omega, fun k hk => old3 k (by omega)⟩
  have HBE3 := Lib.hid BE3
  clear old3 hown3 hgr3 hat3 BE3
  go_wp2_with (at_builtin; refine wpList_append_any rfl (.tmp 18) (.tmp 22) 26 rfl w.heap.size 27 (.slice none 0 0) 1 24 Try.underlying26 info_bytes rfl (by decide) (by decide) (.slice A6 ls.length c6) ls.length vs rfl ?d1 (some ⟨w3.heap.size, 0, none⟩) 1 1 [.slice A21 l.length c21] rfl ?d2 rfl ?d4 ?d5 ?d6 ?d7)
  case d1 =>
    have h := (own_same HO2.out (fun k hk => O3.out k (v6lt.out k hk).2)).alloc (.cells #[.slice A21 l.length c21] 27)
    simpa using h
  case d2 => exact src_cell w3 _ _
  case d4 => intro u hu; simp at hu; subst hu; rfl
  case d5 => omega
  case d6 => simp; omega
  intro v23 w4 hown4 hgr4 _ hat4
  have hz4 : w3.heap.size + 1 ≤ w4.heap.size := by have := hgr4.size; simpa using this
  have old4 : ∀ k, k < w3.heap.size → ¬ (Value.slice A6 ls.length c6).ownBlock = some k → w4.heap[k]? = w3.heap[k]? := fun k hk hn => by
    rw [hgr4.block k (by simp; omega) (fun e => hn e.symm), heap_alloc_old _ _ hk]
  have nb : ∀ k, k < w.heap.size + 2 → ¬ (Value.slice A6 ls.length c6).ownBlock = some k := fun k hk e => by
    have := V6.out k (by simpa using e); omega
  have B04 : w4.heap[w.heap.size]? = some (.cells #[.int .i64 most, .slice A ls.length c] 38 (0, 0)) := (old4 _ (by omega) (nb _ (by omega))).trans ((O3.out _ (by omega)).trans HB02.out)
  have B14 : w4.heap[w.heap.size + 1]? = some (.cells #[.int .i64 0, .slice none 0 0] 38 (0, 0)) := (old4 _ (by omega) (nb _ (by omega))).trans ((O3.out _ (by omega)).trans HB12.out)
  have BE4 : Below w.heap.size w w4 := HBE3.out.trans ⟨hgr4.os, hgr4.tape, hgr4.output, by omega, fun k hk => old4 k (by omega) (nb k (by omega))⟩
  have d7blk : ∀ k, v23.ownBlock = some k → w.heap.size + 2 ≤ k := by
    intro k hk
    rcases hat4 with h | h
    · rw [h] at hk; exact V6.out k (by simpa using hk)
    · rw [h] at hk; injection hk with hk; first | omega | (simp at hk; omega)
  have fin : Fifo.Rows w.heap.size w4 v23 (vs ++ [.slice A21 l.length c21]) (ls ++ [l]) := by
    have kg : Keep (fun k => (Value.slice A6 ls.length c6).ownBlock = some k) (w3.alloc (.cells #[.slice A21 l.length c21] 27)) w4 := Keep.of_grown hgr4
    have r3 : Fifo.Rows w.heap.size w3 (.slice A6 ls.length c6) vs ls :=
      ⟨by simpa using own_same HO2.out (fun k hk => O3.out k (v6lt.out k hk).2), fun j x m hx hm => (E2.out j x m hx hm).keep K3.out (by omega) (fun _ h => h.elim)⟩
    have ka : Keep (fun _ => False) w3 (w3.alloc (.cells #[.slice A21 l.length c21] 27)) := (Keep.refl _ _).alloc _
    have r4 := r3.keep ka (by omega) (fun _ h => h.elim) (fun _ _ h => h)
    have x3 : RdF w.heap.size w3 (.slice A21 l.length c21) l := RdF.of_own (base := w.heap.size) (by simpa using HO3.out)
    exact r4.snoc (x3.keep ka (by omega) (fun _ h => h.elim)) (by simp; omega) hown4 hgr4
  obtain ⟨A23, c23, rfl, -⟩ := own_form hown4
  have c0 : w4.cell? ⟨w.heap.size, 0, none⟩ = some (.int .i64 most) := cell_of_block B04 0
  have c1 : w4.cell? ⟨w.heap.size, 1, none⟩ = some (.slice A ls.length c) := cell_of_block B04 1
  have d0 : w4.cell? ⟨w.heap.size + 1, 0, none⟩ = some (.int .i64 0) := cell_of_block B14 0
  have d1 : w4.cell? ⟨w.heap.size + 1, 1, none⟩ = some (.slice none 0 0) := cell_of_block B14 1
  have f1 : w4.frozen? ⟨w.heap.size, 1, none⟩ = false := free_of_block B04 1
  have g0 : w4.frozen? ⟨w.heap.size + 1, 0, none⟩ = false := free_of_block B14 0
  have g1 : w4.frozen? ⟨w.heap.size + 1, 1, none⟩ = false := free_of_block B14 1
  have FIN := Lib.hid fin
  have HBE4 := Lib.hid BE4
  have DB := Lib.hid d7blk
  have HB04 := Lib.hid B04
  have HB14 := Lib.hid B14
  clear fin BE4 d7blk hown4 hgr4 hat4 B04 B14 nb old4
  go_wp2_with fail
  refine bodyPost_ret (v := .tuple #[.agg #[.int .i64 most, .slice A23 (ls.length + 1) c23], .int .i64 0]) (by simp [results, Try.results15, go_sem, d0, d1]) rfl ?_
  refine ⟨A23, c23, A21, c21, by simp, ?_, ?_, fun ad had => ?_⟩
  · exact ((HBE4.out.setCell (Nat.le_refl _) _).setCell (by simp) _).setCell (by simp) _
  rotate_left
  · have := HO3.out.lt ad.block (by rw [had]; rfl)
    refine ⟨this.1, ?_⟩
    simp
    omega
  · have kf : Keep (fun k => k = w.heap.size ∨ k = w.heap.size + 1) w4 (((w4.setCell ⟨w.heap.size, 1, none⟩ (.slice A23 (ls.length + 1) c23)).setCell ⟨w.heap.size + 1, 0, none⟩ (.int .i64 most)).setCell ⟨w.heap.size + 1, 1, none⟩ (.slice A23 (ls.length + 1) c23)) :=
      (((Keep.refl _ _).setCell _ _ (fun _ => .inl rfl)).setCell _ _ (fun _ => .inr rfl)).setCell _ _ (fun _ => .inr rfl)
    have := FIN.out.keep kf (by omega) (fun k hk => by
      rcases hk with rfl | rfl
      · exact ⟨Nat.le_refl _, _, _, _, HB04.out, by decide⟩
      · exact ⟨by omega, _, _, _, HB14.out, by decide⟩) (fun k hk hS => by have := DB.out k hk; omega)
    simpa using this

theorem pop_nil (most : Int) (A : Option Addr) (c : Nat) (w : World) :
    Calls Try.prog 16 #[.agg #[.int .i64 most, .slice A 0 c]] w fun e w' => e = .returned (.tuple #[.agg #[.int .i64 most, .slice A 0 c], .slice none 0 0, .bool false]) ∧ Below w.heap.size w w' := by
  go_enter Try.func16, Try.ntmps16
  go_wp2_with fail
  exact bodyPost_ret (v := .tuple #[.agg #[.int .i64 most, .slice A 0 c], .slice none 0 0, .bool false]) (by simp [results, Try.results16, go_sem]) rfl ⟨rfl, ((Below.refl _ _).alloc (Nat.le_refl _) _).alloc (by simp) _⟩

/-- What a Pop leaves: the first one, as it lay, and a line of its own, in new memory. -/
def Popped (w : World) (most : Int) (x : Value) (xs : List Value) (l : List Int) (ls : List (List Int)) (e : Ending) (w' : World) : Prop :=
  ∃ A c, e = .returned (.tuple #[.agg #[.int .i64 most, .slice A ls.length c], x, .bool true]) ∧ Below w.heap.size w w' ∧ Fifo.Rows w.heap.size w' (.slice A ls.length c) xs ls ∧ RdF w.heap.size w' x l

set_option maxHeartbeats 2000000 in
theorem pop_cons (B : Nat) (most : Int) (A : Option Addr) (c : Nat) (x : Value) (xs : List Value) (l : List Int) (ls : List (List Int)) (w : World) (h : Fifo.Rows B w (.slice A (l :: ls).length c) (x :: xs) (l :: ls)) (hn : ls.length ≤ 1000) :
    Calls Try.prog 16 #[.agg #[.int .i64 most, .slice A (ls.length + 1) c]] w (Popped w most x xs l ls) := by
  obtain ⟨A2, c2, e2, hcc, hcm, n2, s2⟩ := own_form h.own
  injection e2 with e2 e2n e2'
  clear e2n
  subst e2 e2'
  have hvl : (x :: xs).length = ls.length + 1 := by have := h.own.1; simpa using this
  obtain ⟨A1, c1, rfl, hs1, hf1⟩ := h.each 0 x l rfl rfl
  cases A with
  | none => have := (n2 rfl).1; simp at this
  | some ad =>
    obtain ⟨g, rfl, k2⟩ := s2 ad rfl
    have hgl : g < w.heap.size := World.block_lt_of_cell? w _ (k2 0 _ rfl)
    obtain ⟨W1, hW1⟩ : ∃ W1, W1 = (w.alloc (.cells #[.int .i64 most, .slice (some ⟨g, 0, none⟩) (ls.length + 1) c] 38)).alloc (.cells #[.int .i64 0, .slice none 0 0] 38) := ⟨_, rfl⟩
    have s1 : W1.heap.size = w.heap.size + 2 := by rw [hW1]; simp
    have old1 : ∀ k, k < w.heap.size → W1.heap[k]? = w.heap[k]? := fun k hk => by rw [hW1, heap_alloc_old _ _ (by simp; omega), heap_alloc_old _ _ hk]
    have b0 : W1.heap[w.heap.size]? = some (.cells #[.int .i64 most, .slice (some ⟨g, 0, none⟩) (ls.length + 1) c] 38 (0, 0)) := by
      rw [hW1, heap_alloc_old _ _ (by simp)]; exact heap_alloc_at w _
    have b1 : W1.heap[w.heap.size + 1]? = some (.cells #[.int .i64 0, .slice none 0 0] 38 (0, 0)) := by
      rw [hW1]; simpa using heap_alloc_at (w.alloc (.cells #[.int .i64 most, .slice (some ⟨g, 0, none⟩) (ls.length + 1) c] 38)) (.cells #[.int .i64 0, .slice none 0 0] 38)
    have bel1 : Below w.heap.size w W1 := by rw [hW1]; exact ((Below.refl _ _).alloc (Nat.le_refl _) _).alloc (by simp) _
    have z0 : ((w.alloc (.cells #[.int .i64 most, .slice (some ⟨g, 0, none⟩) (ls.length + 1) c] 38)).alloc (.cells #[.int .i64 0, .slice none 0 0] 38)).cell? ⟨g, 0, none⟩ = some (.slice A1 l.length c1) := by
      rw [← hW1, World.cell?_of_block (old1 g hgl)]; exact k2 0 _ rfl
    have HGL := Lib.hid hgl
    have hcells : ∀ j u, xs[j]? = some u → W1.cell? ⟨g, j + 1, none⟩ = some u := fun j u hu => by
      rw [World.cell?_of_block (old1 g hgl)]; exact k2 (j + 1) u (by simpa using hu)
    have hc1 : (1 : Int) ≤ c := by simp at hcc; omega
    have hc2 : (c : Int) ≤ 9223372036854775807 := by simp only [maxLen] at hcm; omega
    have W1E := Lib.hid hW1
    have B0 := Lib.hid b0
    have B1 := Lib.hid b1
    have BE1 := Lib.hid bel1
    have Z1 := Lib.hid s1
    have HR := Lib.hid h
    have HCELL := Lib.hid hcells
    have HCC : Hid (ls.length + 1 ≤ c) := Lib.hid (by simpa using hcc)
    have HVL : Hid (xs.length = ls.length) := Lib.hid (by simpa using hvl)
    have hxs1 : ∀ u ∈ xs, u.oneCell' = true := fun u hu => rows_one h u (List.mem_cons_of_mem _ hu)
    have HXS := Lib.hid hxs1
    clear hW1 b0 b1 bel1 s1 h hcells hcc hcm hvl n2 s2 k2 hs1 hf1 old1 hxs1
    by_cases hcap : c = 1
    · subst hcap
      have hls : ls = [] := List.eq_nil_of_length_eq_zero (by have := HCC.out; omega)
      subst hls
      have hxs : xs = [] := List.eq_nil_of_length_eq_zero (by have := HVL.out; simpa using this)
      subst hxs
      simp only [List.length_nil, Nat.zero_add] at z0
      replace W1E : Hid (W1 = (w.alloc (.cells #[.int .i64 most, .slice (some ⟨g, 0, none⟩) 1 1] 38)).alloc (.cells #[.int .i64 0, .slice none 0 0] 38)) := Lib.hid W1E.out
      go_enter Try.func16, Try.ntmps16
      go_wp2_with (at_builtin; refine wpList_append_any rfl (.tmp 15) (.tmp 18) 26 rfl w.heap.size 27 (.slice none 0 0) 1 24 Try.underlying26 info_bytes rfl (by decide) (by decide) (.slice (some ⟨w.heap.size + 2, 0, none⟩) 0 0) 0 [] rfl ?ap1 (some ⟨g, 0, none⟩) 0 0 [] rfl ?ap2 ?ap3 HXS.out ?ap5 ?ap6 ?ap7)
      case ap1 =>
        rw [← W1E.out]
        have := World.ownsRow_made (base := w.heap.size) (e := 27) (size := 1) W1 #[] 0 (by rw [Z1.out]; omega) (Nat.zero_le _) rfl
        rw [Z1.out] at this
        exact this
      case ap2 =>
        rw [← W1E.out]
        refine ⟨(fun h => by cases h), by simp, by simp only [maxLen]; omega, fun ad had j u hu => ?_⟩
        injection had with had
        subst had
        rw [Addr.add_lit]
        simp at hu
      case ap3 => simp
      case ap5 => simp; try omega
      case ap6 => simp; omega
      intro v6 w2 hown2 hgr2 _ hat2
      rw [← W1E.out] at hgr2
      have e2 : W1.heap.size = w.heap.size + 2 := Z1.out
      have hz2 : w.heap.size + 3 ≤ w2.heap.size := by have := hgr2.size; simp at this; omega
      have B02 : w2.heap[w.heap.size]? = some (.cells #[.int .i64 most, .slice (some ⟨g, 0, none⟩) 1 1] 38 (0, 0)) := by
        rw [hgr2.block _ (by simp; omega) (by simp [Value.ownBlock]), heap_alloc_old _ _ (by omega)]; exact B0.out
      have B12 : w2.heap[w.heap.size + 1]? = some (.cells #[.int .i64 0, .slice none 0 0] 38 (0, 0)) := by
        rw [hgr2.block _ (by simp; omega) (by simp [Value.ownBlock]), heap_alloc_old _ _ (by omega)]; exact B1.out
      have BE2 : Below w.heap.size w w2 := (BE1.out.alloc (by omega) (.cells #[] 27)).trans ⟨hgr2.os, hgr2.tape, hgr2.output, hgr2.size, fun k hk => hgr2.block k (by simp; omega) (by simp [Value.ownBlock]; omega)⟩
      have v6ge : ∀ k, v6.ownBlock = some k → w.heap.size + 2 ≤ k := by
        intro k hk
        rcases hat2 with h | h
        · rw [h] at hk; injection hk with hk; simp only at hk; omega
        · rw [h] at hk; injection hk with hk; first | omega | (simp at hk; omega)
      obtain ⟨A6, c6, rfl, -⟩ := own_form hown2
      have c0 : w2.cell? ⟨w.heap.size, 0, none⟩ = some (.int .i64 most) := cell_of_block B02 0
      have ck1 : w2.cell? ⟨w.heap.size, 1, none⟩ = some (.slice (some ⟨g, 0, none⟩) 1 1) := cell_of_block B02 1
      have d0 : w2.cell? ⟨w.heap.size + 1, 0, none⟩ = some (.int .i64 0) := cell_of_block B12 0
      have d1 : w2.cell? ⟨w.heap.size + 1, 1, none⟩ = some (.slice none 0 0) := cell_of_block B12 1
      have f1 : w2.frozen? ⟨w.heap.size, 1, none⟩ = false := free_of_block B02 1
      have g0 : w2.frozen? ⟨w.heap.size + 1, 0, none⟩ = false := free_of_block B12 0
      have g1 : w2.frozen? ⟨w.heap.size + 1, 1, none⟩ = false := free_of_block B12 1
      have HO2 := Lib.hid hown2
      have HB02 := Lib.hid B02
      have HB12 := Lib.hid B12
      have HBE2 := Lib.hid BE2
      have V6 := Lib.hid v6ge
      clear hown2 hgr2 hat2 B02 B12 BE2 v6ge e2
      go_wp2_with fail
      refine bodyPost_ret (v := .tuple #[.agg #[.int .i64 most, .slice A6 0 c6], .slice A1 l.length c1, .bool true]) (by simp [results, Try.results16, go_sem, d0, d1]) rfl ?_
      have kb : Keep (fun k => w.heap.size ≤ k) w w2 := Keep.of_below HBE2.out
      have each2 : ∀ (j : Nat) (x : Value) (m : List Int), (.slice A1 l.length c1 :: [])[j]? = some x → (l :: [])[j]? = some m → RdF w.heap.size w2 x m := by
        intro j x m hx hm
        obtain ⟨A3, c3, rfl, h2, h3⟩ := HR.out.each j x m hx hm
        have hbl' : m ≠ [] → bv m ≠ [] := fun h e => h (by simpa [bv] using e)
        exact ⟨A3, c3, rfl, h2.same (fun ad had hne => HBE2.out.block _ (h2.lt had hne)), fun hne ad had => .inl (h2.lt had (hbl' hne))⟩
      have kf : Keep (fun k => k = w.heap.size ∨ k = w.heap.size + 1) w2 (((w2.setCell ⟨w.heap.size, 1, none⟩ (.slice A6 0 c6)).setCell ⟨w.heap.size + 1, 0, none⟩ (.int .i64 most)).setCell ⟨w.heap.size + 1, 1, none⟩ (.slice A6 0 c6)) :=
        (((Keep.refl _ _).setCell _ _ (fun _ => .inl rfl)).setCell _ _ (fun _ => .inr rfl)).setCell _ _ (fun _ => .inr rfl)
      have typ : ∀ k, k = w.heap.size ∨ k = w.heap.size + 1 → w.heap.size ≤ k ∧ ∃ cs t fr, w2.heap[k]? = some (.cells cs t fr) ∧ t ≠ 5 := fun k hk => by
        rcases hk with rfl | rfl
        · exact ⟨Nat.le_refl _, _, _, _, HB02.out, by decide⟩
        · exact ⟨by omega, _, _, _, HB12.out, by decide⟩
      refine ⟨A6, c6, rfl, ((HBE2.out.setCell (Nat.le_refl _) _).setCell (by simp) _).setCell (by simp) _, ?_, (each2 0 _ l rfl rfl).keep kf (by omega) typ⟩
      have r2 : Fifo.Rows w.heap.size w2 (.slice A6 0 c6) [] [] := ⟨by simpa using HO2.out, fun j x m hx hm => by simp at hx⟩
      exact r2.keep kf (by omega) typ (fun k hk hS => by have := V6.out k (by simpa using hk); omega)
    · go_enter Try.func16, Try.ntmps16
      go_wp2_with (at_builtin; refine wpList_append_any rfl (.tmp 15) (.tmp 18) 26 rfl w.heap.size 27 (.slice none 0 0) 1 24 Try.underlying26 info_bytes rfl (by decide) (by decide) (.slice (some ⟨w.heap.size + 2, 0, none⟩) 0 0) 0 [] rfl ?aq1 (some ⟨g, 1, none⟩) ls.length (c - 1) xs rfl ?aq2 ?aq3 HXS.out ?aq5 ?aq6 ?aq7)
      case aq1 =>
        rw [← W1E.out]
        have := World.ownsRow_made (base := w.heap.size) (e := 27) (size := 1) W1 #[] 0 (by rw [Z1.out]; omega) (Nat.zero_le _) rfl
        rw [Z1.out] at this
        exact this
      case aq2 =>
        rw [← W1E.out]
        refine ⟨(fun h => by cases h), by have := HCC.out; simp at this ⊢; try omega, by simp only [maxLen]; omega, fun ad had j u hu => ?_⟩
        injection had with had
        subst had
        rw [Addr.add_lit]
        have := HCELL.out j u hu
        rw [Nat.add_comm]
        exact (World.cell?_of_block (heap_alloc_old W1 _ (by have := Z1.out; have := HGL.out; show g < _; omega))).trans this
      case aq3 => have := HVL.out; simp at this ⊢; omega
      case aq5 => simp; try omega
      case aq6 => simp; omega
      intro v6 w2 hown2 hgr2 _ hat2
      rw [← W1E.out] at hgr2
      have e2 : W1.heap.size = w.heap.size + 2 := Z1.out
      have hz2 : w.heap.size + 3 ≤ w2.heap.size := by have := hgr2.size; simp at this; omega
      have B02 : w2.heap[w.heap.size]? = some (.cells #[.int .i64 most, .slice (some ⟨g, 0, none⟩) (ls.length + 1) c] 38 (0, 0)) := by
        rw [hgr2.block _ (by simp; omega) (by simp [Value.ownBlock]), heap_alloc_old _ _ (by omega)]; exact B0.out
      have B12 : w2.heap[w.heap.size + 1]? = some (.cells #[.int .i64 0, .slice none 0 0] 38 (0, 0)) := by
        rw [hgr2.block _ (by simp; omega) (by simp [Value.ownBlock]), heap_alloc_old _ _ (by omega)]; exact B1.out
      have BE2 : Below w.heap.size w w2 := (BE1.out.alloc (by omega) (.cells #[] 27)).trans ⟨hgr2.os, hgr2.tape, hgr2.output, hgr2.size, fun k hk => hgr2.block k (by simp; omega) (by simp [Value.ownBlock]; omega)⟩
      have v6ge : ∀ k, v6.ownBlock = some k → w.heap.size + 2 ≤ k := by
        intro k hk
        rcases hat2 with h | h
        · rw [h] at hk; injection hk with hk; simp only at hk; omega
        · rw [h] at hk; injection hk with hk; first | omega | (simp at hk; omega)
      obtain ⟨A6, c6, rfl, -⟩ := own_form hown2
      have c0 : w2.cell? ⟨w.heap.size, 0, none⟩ = some (.int .i64 most) := cell_of_block B02 0
      have ck1 : w2.cell? ⟨w.heap.size, 1, none⟩ = some (.slice (some ⟨g, 0, none⟩) (ls.length + 1) c) := cell_of_block B02 1
      have d0 : w2.cell? ⟨w.heap.size + 1, 0, none⟩ = some (.int .i64 0) := cell_of_block B12 0
      have d1 : w2.cell? ⟨w.heap.size + 1, 1, none⟩ = some (.slice none 0 0) := cell_of_block B12 1
      have f1 : w2.frozen? ⟨w.heap.size, 1, none⟩ = false := free_of_block B02 1
      have g0 : w2.frozen? ⟨w.heap.size + 1, 0, none⟩ = false := free_of_block B12 0
      have g1 : w2.frozen? ⟨w.heap.size + 1, 1, none⟩ = false := free_of_block B12 1
      have HO2 := Lib.hid hown2
      have HB02 := Lib.hid B02
      have HB12 := Lib.hid B12
      have HBE2 := Lib.hid BE2
      have V6 := Lib.hid v6ge
      clear hown2 hgr2 hat2 B02 B12 BE2 v6ge e2
      go_wp2_with fail
      refine bodyPost_ret (v := .tuple #[.agg #[.int .i64 most, .slice A6 ls.length c6], .slice A1 l.length c1, .bool true]) (by simp [results, Try.results16, go_sem, d0, d1]) rfl ?_
      have kb : Keep (fun k => w.heap.size ≤ k) w w2 := Keep.of_below HBE2.out
      have each2 : ∀ (j : Nat) (x : Value) (m : List Int), (.slice A1 l.length c1 :: xs)[j]? = some x → (l :: ls)[j]? = some m → RdF w.heap.size w2 x m := by
        intro j x m hx hm
        obtain ⟨A3, c3, rfl, h2, h3⟩ := HR.out.each j x m hx hm
        have hbl' : m ≠ [] → bv m ≠ [] := fun h e => h (by simpa [bv] using e)
        exact ⟨A3, c3, rfl, h2.same (fun ad had hne => HBE2.out.block _ (h2.lt had hne)), fun hne ad had => .inl (h2.lt had (hbl' hne))⟩
      have kf : Keep (fun k => k = w.heap.size ∨ k = w.heap.size + 1) w2 (((w2.setCell ⟨w.heap.size, 1, none⟩ (.slice A6 ls.length c6)).setCell ⟨w.heap.size + 1, 0, none⟩ (.int .i64 most)).setCell ⟨w.heap.size + 1, 1, none⟩ (.slice A6 ls.length c6)) :=
        (((Keep.refl _ _).setCell _ _ (fun _ => .inl rfl)).setCell _ _ (fun _ => .inr rfl)).setCell _ _ (fun _ => .inr rfl)
      have typ : ∀ k, k = w.heap.size ∨ k = w.heap.size + 1 → w.heap.size ≤ k ∧ ∃ cs t fr, w2.heap[k]? = some (.cells cs t fr) ∧ t ≠ 5 := fun k hk => by
        rcases hk with rfl | rfl
        · exact ⟨Nat.le_refl _, _, _, _, HB02.out, by decide⟩
        · exact ⟨by omega, _, _, _, HB12.out, by decide⟩
      refine ⟨A6, c6, rfl, ((HBE2.out.setCell (Nat.le_refl _) _).setCell (by simp) _).setCell (by simp) _, ?_, (each2 0 _ l rfl rfl).keep kf (by omega) typ⟩
      have r2 : Fifo.Rows w.heap.size w2 (.slice A6 ls.length c6) xs ls := ⟨by simpa using HO2.out, fun j x m hx hm => each2 (j + 1) x m (by simpa using hx) (by simpa using hm)⟩
      exact r2.keep kf (by omega) typ (fun k hk hS => by have := V6.out k (by simpa using hk); omega)

end Go.Proofs.Ytlegnngelbneaaa.Ref19
