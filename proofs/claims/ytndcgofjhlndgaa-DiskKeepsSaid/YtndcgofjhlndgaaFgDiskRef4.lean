/- Contracts of floodgateref07's settle, Sync, Crash and New. Conditions: none beyond each lemma's own hypotheses. -/
import Derived.Test.YtndcgofjhlndgaaFgDiskRef3
set_option linter.unusedVariables false
set_option linter.unusedSimpArgs false
namespace Go.Proofs.Ytndcgofjhlndgaa.Disk
open Go.RowKit Go.Proofs.Ytndcgofjhlndgaa.Fg

theorem take_lay {α : Type} (L new : List α) (o N : Nat) (h1 : o + new.length ≤ N) (h2 : N ≤ L.length) : (L.take o ++ (new ++ L.drop (o + new.length))).take N = (L.take N).take o ++ (new ++ (L.take N).drop (o + new.length)) := by
  have hA : (L.take o).length = o := by rw [List.length_take]; omega
  have hB : new.take (N - o) = new := List.take_of_length_le (by omega)
  rw [List.take_append, hA, List.take_take, Nat.min_eq_right (by omega), List.take_append, hB, List.take_take, Nat.min_eq_left (by omega), List.drop_take, Nat.sub_sub]
/-- One row of an owned row of rows is another. -/
theorem own_store {w : World} {base : Nat} {e : TypeId} {k n c g : Nat} {rows : List (List Value)} (h : w.ownsRow base e k (.slice (some ⟨g, 0, none⟩) n c) n rows.flatten) (hk : ∀ r ∈ rows, r.length = k) (hl : rows.length = n)
    (i : Nat) (hi : i < n) (new : List Value) (hn : new.length = k) : (w.setCells g (i * k) new).ownsRow base e k (.slice (some ⟨g, 0, none⟩) n c) n (rows.set i new).flatten ∧ w.there g (i * k) k := by
  obtain ⟨h1, h2⟩ := h
  rcases h2 with ⟨h', _⟩ | ⟨g', c', cur, h', hb, hg, hnc, hcm, hcs, htake⟩
  · simp at h'
  · simp only [Value.slice.injEq, Option.some.injEq, Addr.mk.injEq, and_true, true_and] at h'
    obtain ⟨rfl, rfl⟩ := h'
    have hcl : cur.toList.length = c * k := by simpa using hcs
    have hle : i * k + k ≤ n * k := by have := Nat.mul_le_mul_right k (show i + 1 ≤ n from hi); rw [Nat.add_mul, Nat.one_mul] at this; exact this
    have hle2 : n * k ≤ c * k := Nat.mul_le_mul_right k hnc
    refine ⟨⟨?_, .inr ⟨g, c, _, rfl, hb, heap_setCells g new (i * k) w cur hg (by rw [hn, hcs]; omega), hnc, hcm, ?_, ?_⟩⟩, fun j hj => ⟨?_, free_of_block hg _⟩⟩
    · rw [flat_len (set_len hk i hn), List.length_set, hl]
    · simp only [List.size_toArray, List.length_append, List.length_take, List.length_drop]
      omega
    · rw [← flat_set hk i (by omega) new hn, ← htake]
      have := take_lay cur.toList new (i * k) (n * k) (by omega) (by omega)
      rw [hn] at this ⊢
      exact this
    · rw [cell_of_block hg, Array.getElem?_eq_getElem (by rw [hcs]; omega)]
      rfl
theorem refInfo : (Try.prog.info? 38).map (·.size) = some 1 := by kernel_rfl

theorem blv_ne {l : List Bool} {j : Nat} (h : j < l.length) : blv l ≠ [] := by
  intro e
  have h1 : (blv l).length = 0 := by rw [e]; rfl
  rw [blv, List.length_map] at h1
  omega
def kf (l : List Bool) (k : Nat) : Bool := l.getD k false
/-- What settle does. -/
def settled (d : Dk) (l : List Bool) : Dk := { d with st := Dk.settle (kf l) 0 d.st d.pd, pd := [] }
def SetRel (w : World) (A1 : Option Addr) (c1 : Nat) (A2 : Option Addr) (c2 : Nat) (q : Bool) (lr : Int) (l : List Bool) (d : Dk) (A5 : Option Addr) (c5 : Nat) (j : Nat) (w' : World) : Prop :=
  Below w.heap.size w w' ∧ w'.ownsRow w.heap.size 25 64 (.slice A5 d.st.length c5) d.st.length (sv (Dk.settle (kf l) 0 d.st (d.pd.take j))).flatten ∧
  w'.heap[w.heap.size]? = some (.cells #[.slice A1 d.st.length c1, .slice A2 d.pd.length c2, .bool q, .int .i64 lr, .bool d.down] 41) ∧
  w'.heap[w.heap.size + 1]? = some (.cells #[.slice none 0 0, .slice none 0 0, .bool false, .int .i64 0, .bool false] 41)

set_option maxRecDepth 100000 in
set_option maxHeartbeats 2000000 in
theorem settle_any {w : World} {v : Value} {d : Dk} {G : Nat → Prop} (h : IsRef w v d G) (l : List Bool) (A : Option Addr) (c : Nat) (hs : Fg.Src w A l.length c (blv l)) :
    Calls Try.prog 31 #[v, .slice A l.length c] w (RefD w (settled d l) G) := by
  obtain ⟨A1, c1, A2, c2, lr, rfl, h1, h2⟩ := h
  have H1 := Lib.hid h1
  have H2 := Lib.hid h2
  have HS := Lib.hid hs
  have HR := Lib.hid h1.rows.2
  have hfew := h1.few
  have hm := hs.most
  have hm2 := hs.cap
  unfold maxLen at hm
  clear h1 h2 hs
  obtain ⟨q, hq⟩ : ∃ q, decide (0 ≤ d.left) = q := ⟨_, rfl⟩
  have HQ := Lib.hid hq
  unfold rcells
  rw [hq]
  clear hq
  have x0 : (((w.alloc (.cells #[.slice A1 d.st.length c1, .slice A2 d.pd.length c2, .bool q, .int .i64 lr, .bool d.down] 41)).alloc (.cells #[.slice none 0 0, .slice none 0 0, .bool false, .int .i64 0, .bool false] 41)).alloc (.cells #[] 25)).heap[w.heap.size]? = some (.cells #[.slice A1 d.st.length c1, .slice A2 d.pd.length c2, .bool q, .int .i64 lr, .bool d.down] 41) := (heap_alloc_old _ _ (by simp; omega)).trans ((heap_alloc_old _ _ (by simp)).trans (heap_alloc_at w _))
  have x1 : (((w.alloc (.cells #[.slice A1 d.st.length c1, .slice A2 d.pd.length c2, .bool q, .int .i64 lr, .bool d.down] 41)).alloc (.cells #[.slice none 0 0, .slice none 0 0, .bool false, .int .i64 0, .bool false] 41)).alloc (.cells #[] 25)).heap[w.heap.size + 1]? = some (.cells #[.slice none 0 0, .slice none 0 0, .bool false, .int .i64 0, .bool false] 41) := (heap_alloc_old _ _ (by simp)).trans (by
    have := heap_alloc_at (w.alloc (.cells #[.slice A1 d.st.length c1, .slice A2 d.pd.length c2, .bool q, .int .i64 lr, .bool d.down] 41)) (.cells #[.slice none 0 0, .slice none 0 0, .bool false, .int .i64 0, .bool false] 41)
    simpa using this)
  have X0 := Lib.hid x0
  have X1 := Lib.hid x1
  have c0 := cell_of_block x0 0
  simp only [List.getElem?_toArray, List.getElem?_cons_zero] at c0
  have HL1 := Lib.hid H1.out.st.1
  clear x0 x1
  go_enter Try.func31, Try.ntmps31
  go_wp2_with (at_builtin; refine wpList_append_any rfl (.tmp 8) (.tmp 10) 38 rfl (w.heap.size + 2) 25 (.agg (bv noSec).toArray) 64 64 Try.underlying38 secInfo' rfl (by decide) (by decide) (.slice (some ⟨w.heap.size + 2, 0, none⟩) 0 0) 0 [] rfl ?a1 A1 d.st.length c1 (sv d.st).flatten rfl ?a2 HL1.out (sv_one _) ?a5 ?a6 ?_)
  case a1 =>
    have := World.ownsRow_made (base := w.heap.size + 2) (e := 25) (size := 64) ((w.alloc (.cells #[.slice A1 d.st.length c1, .slice A2 d.pd.length c2, .bool q, .int .i64 lr, .bool d.down] 41)).alloc (.cells #[.slice none 0 0, .slice none 0 0, .bool false, .int .i64 0, .bool false] 41)) #[] 0 (by simp) (Nat.zero_le _) rfl
    simpa using this
  case a2 => exact Fg.Src.of_own (((H1.out.st.alloc _).alloc _).alloc _)
  case a5 => omega
  case a6 => simp
  intro v5 w3 ho5 hg5 _ _
  try simp only [Nat.zero_add, List.nil_append] at ho5
  obtain ⟨A5, c5, rfl, -⟩ := own_form ho5
  have start : SetRel w A1 c1 A2 c2 q lr l d A5 c5 0 w3 := by
    refine ⟨((((Below.refl _ _).alloc (Nat.le_refl _) _).alloc (by simp) _).alloc (by simp; omega) _).grown hg5 (by simp; omega) (fun k hk => ?_), own_base ho5 (by omega), (hg5.block _ (by simp; omega) ?_).trans X0.out, (hg5.block _ (by simp) ?_).trans X1.out⟩
    · simp [Value.ownBlock] at hk; omega
    · simp [Value.ownBlock]
    · simp [Value.ownBlock]
  have STT := Lib.hid start
  have hfo := (own_base ho5 (Nat.zero_le _) : w3.ownsRow 0 _ _ _ _ _)
  have y1 : w3.cell? ⟨w.heap.size, 1, none⟩ = some (.slice A2 d.pd.length c2) := cell_of_block start.2.2.1 1
  clear ho5 hg5 start hfo c0
  go_wp2_with fail
  go_loopg [15] d.pd.length (fun k n wr => ∃ j : Nat, j + k = d.pd.length ∧ n = .int .i64 j ∧ SetRel w A1 c1 A2 c2 q lr l d A5 c5 j wr)
  case atStart => exact ⟨0, Nat.zero_add _, rfl, STT.out⟩
  case round =>
    obtain ⟨j, hj, rfl, hb, ho, k0, k1⟩ := hrel
    have HB := Lib.hid hb
    have HO := Lib.hid ho
    have K0 := Lib.hid k0
    have K1 := Lib.hid k1
    clear hb ho k0 k1
    by_cases hlt : j < d.pd.length
    · obtain ⟨x, hx⟩ : ∃ x, d.pd[j]? = some x := ⟨_, List.getElem?_eq_getElem hlt⟩
      obtain ⟨p, rfl, hp1, hp2⟩ := HR.out j (wrow x) (by rw [List.getElem?_map, hx]; rfl)
      have hx64 : x.1 < d.st.length ∧ x.2.length = 64 := H1.out.ok.at_ x (List.mem_of_getElem? hx)
      have ST := Lib.hid (settle_step (kf l) hx)
      have R0 := Lib.hid (heap_alloc_at wr (.cells (.int .i64 0 :: bv noSec).toArray 67))
      have R1 := Lib.hid (setRow_at (wrow x).toArray R0.out)
      have R2 : Hid (Below wr.heap.size wr ((wr.alloc (.cells (.int .i64 0 :: bv noSec).toArray 67)).setRow wr.heap.size (wrow x).toArray)) := Lib.hid (below_setRow ((Below.refl _ _).alloc (Nat.le_refl _) _) (Nat.le_refl _) _)
      have HPR : Hid (wr.rangeAt p (j * 65) (wrow x)) := Lib.hid (fun i v hv => (HB.out.cell (p := ⟨p, j * 65 + i, none⟩) hp1).trans (hp2 i v hv))
      have Y1 : Hid ((Try.prog.info? 67).map (·.size) = some (wrow x).length) := Lib.hid (by rw [rwrSize, wrow_len hx64.2])
      have Y2 : Hid ((Try.prog.info? 67).map (·.size) = some (wrow x).toArray.size) := Lib.hid (by rw [rwrSize]; simp [wrow_len hx64.2])
      have Y3 : Hid ((.int .i64 0 :: bv noSec).toArray.size = (wrow x).toArray.size) := Lib.hid (by simp [wrow, bv, hx64.2, noSec])
      have Y4 := Lib.hid (wrow_one x)
      have HX := Lib.hid hx64
      have hws := HB.out.size
      clear hx hp2 hx64
      go_upto_region 5 with (first
        | refine wpList_load_mid rfl 67 (.tmp 18) rfl p (j * 65) rfl (wrow x) _ HPR.out Try.underlying67 rfl Y1.out ?_
        | refine wpList_alloc_as rfl 67 rfl (.int .i64 0 :: bv noSec).toArray rwrZero ?_
        | refine wpList_store_block rfl 67 (.tmp 7) (.tmp 19) rfl wr.heap.size (wrow x).toArray rfl rfl (.int .i64 0 :: bv noSec).toArray 67 R0.out Y2.out Y3.out Y4.out ?_)
      generalize (wr.alloc (.cells (.int .i64 0 :: bv noSec).toArray 67)).setRow wr.heap.size (wrow x).toArray = w9 at *
      have B9 : Hid (Below w.heap.size w w9) := Lib.hid (HB.out.trans (R2.out.mono hws))
      have hs9 := R2.out.size
      have O9 : Hid (w9.ownsRow w.heap.size 25 64 (.slice A5 d.st.length c5) d.st.length (sv (Dk.settle (kf l) 0 d.st (d.pd.take j))).flatten) := Lib.hid (own_same HO.out fun k hk => R2.out.block k (HO.out.lt k hk).2)
      have N0 := Lib.hid ((R2.out.block _ (block_lt K0.out)).trans K0.out)
      have N1 := Lib.hid ((R2.out.block _ (block_lt K1.out)).trans K1.out)
      have hsl := settle_sec' H1.out.ok (kf l) j
      have hlen : (Dk.settle (kf l) 0 d.st (d.pd.take j)).length = d.st.length := Dk.length_settle _ _ _ _
      cases hfj : kf l j with
      | false =>
        have ST' := Lib.hid (ST.out.trans (if_neg (by rw [hfj]; decide)))
        have FIN : Hid (SetRel w A1 c1 (some ⟨p, 0, none⟩) c2 q lr l d A5 c5 (j + 1) w9) := Lib.hid ⟨B9.out, by rw [ST'.out]; exact O9.out, N0.out, N1.out⟩
        by_cases hjl : j < l.length
        · have hlj : l[j] = false := by simpa [kf, hjl] using hfj
          cases A with
          | none => have := (HS.out.nil rfl).1; omega
          | some ad =>
            have hc : w9.cell? (ad.add j) = some (.bool false) := by
              have h0 := HS.out.cells ad rfl j (.bool l[j]) (by simp [blv, hjl])
              rw [hlj] at h0
              have hbk : ad.block < w.heap.size := HS.out.lt rfl (blv_ne hjl)
              have e2 : (ad.add j).block = ad.block := by unfold Addr.add; split <;> rfl
              exact (B9.out.cell (p := ad.add j) (by rw [e2]; exact hbk)).trans h0
            have hj' : (j : Int) < (l.length : Int) := by omega
            clear hfj ST hsl hlen hlj
            go_wp2_with fail
            go_roundg (gk - 1)
            case measure => omega
            case rel => exact ⟨j + 1, by omega, by go_num, FIN.out⟩
        · have hj' : ¬ (j : Int) < (l.length : Int) := by omega
          clear hfj ST hsl hlen
          go_wp2_with fail
          go_roundg (gk - 1)
          case measure => omega
          case rel => exact ⟨j + 1, by omega, by go_num, FIN.out⟩
      | true =>
        have ST' := Lib.hid (ST.out.trans (if_pos hfj))
        have hjl : j < l.length := by
          rcases Nat.lt_or_ge j l.length with h | h
          · exact h
          · rw [kf, List.getD_eq_getElem?_getD, List.getElem?_eq_none h] at hfj; cases hfj
        have hlj : l[j] = true := by simpa [kf, hjl] using hfj
        cases A5 with
        | none =>
          have h0 : d.st.length = 0 := by
            obtain ⟨A', c', hv, -, -, h3, -⟩ := own_form HO.out
            injection hv with e1 e2 e3
            subst e1
            exact (h3 rfl).1
          have := HX.out.1
          omega
        | some a5 =>
          obtain ⟨g5, rfl⟩ : ∃ g5, a5 = ⟨g5, 0, none⟩ := by
            obtain ⟨A', c', hv, -, -, -, h4⟩ := own_form HO.out
            injection hv with e1 e2 e3
            obtain ⟨g, hg, -⟩ := h4 a5 e1.symm
            exact ⟨g, hg⟩
          obtain ⟨ow, th⟩ := own_store O9.out (sv_len hsl) (by rw [sv, List.length_map, hlen]) x.1 HX.out.1 (bv x.2) (by rw [bv_length, HX.out.2])
          have hg5 := (O9.out.lt g5 rfl).1
          have hne0 : w.heap.size ≠ g5 := fun e => own_ne O9.out rfl N0.out (by decide) e.symm
          have hne1 : w.heap.size + 1 ≠ g5 := fun e => own_ne O9.out rfl N1.out (by decide) e.symm
          have FIN : Hid (SetRel w A1 c1 (some ⟨p, 0, none⟩) c2 q lr l d (some ⟨g5, 0, none⟩) c5 (j + 1) (w9.setCells g5 (x.1 * 64) (bv x.2))) := Lib.hid
            ⟨(Keep.below ((Keep.of_below B9.out).setCells g5 _ _ (fun h => by omega)) (Nat.le_refl _) (fun i h => h)), by
              rw [ST'.out, show sv ((Dk.settle (kf l) 0 d.st (d.pd.take j)).set x.1 x.2) = (sv (Dk.settle (kf l) 0 d.st (d.pd.take j))).set x.1 (bv x.2) by rw [sv, sv, List.map_set]]
              exact ow, (heap_setCells_ne g5 _ _ _ hne0).trans N0.out, (heap_setCells_ne g5 _ _ _ hne1).trans N1.out⟩
          cases A with
          | none => have := (HS.out.nil rfl).1; omega
          | some ad =>
            have hc : w9.cell? (ad.add j) = some (.bool true) := by
              have h0 := HS.out.cells ad rfl j (.bool l[j]) (by simp [blv, hjl])
              rw [hlj] at h0
              have hbk : ad.block < w.heap.size := HS.out.lt rfl (blv_ne hjl)
              have e2 : (ad.add j).block = ad.block := by unfold Addr.add; split <;> rfl
              exact (B9.out.cell (p := ad.add j) (by rw [e2]; exact hbk)).trans h0
            have hj' : (j : Int) < (l.length : Int) := by omega
            have q0 : w9.cell? ⟨wr.heap.size, 0, none⟩ = some (.int .i64 x.1) := cell_of_block R1.out 0
            have Q1 : Hid (w9.rangeAt wr.heap.size 1 (bv x.2)) := Lib.hid (fun i v hv => by rw [cell_of_block R1.out, List.getElem?_toArray, wrow, Nat.add_comm 1 i, List.getElem?_cons_succ]; exact hv)
            have hx1 : (x.1 : Int) < (d.st.length : Int) := by have := HX.out.1; omega
            have hx0 : (0 : Int) ≤ (x.1 : Int) := by omega
            have Z1 : Hid ((Try.prog.info? 25).map (·.size) = some (bv x.2).length) := Lib.hid (by rw [secSize, bv_length, HX.out.2])
            have Z2 := Lib.hid (sec_toArray HX.out.2)
            have Z4 := Lib.hid (sec_one x.2)
            have TH : Hid (w9.there g5 (x.1 * 64) (bv x.2).toArray.size) := Lib.hid (by simpa [bv, HX.out.2] using th)
            clear hfj ST hsl hlen hlj ow th
            go_wp2_with (first
              | refine wpList_load_mid rfl 25 (.tmp 33) rfl wr.heap.size 1 rfl (bv x.2) _ Q1.out secUnder rfl Z1.out ?_
              | refine wpList_store_mid rfl 25 (.tmp 35) (.tmp 34) rfl g5 (x.1 * 64) (bv x.2).toArray rfl rfl TH.out Z2.out Z4.out ?_)
            go_roundg (gk - 1)
            case measure => omega
            case rel => exact ⟨j + 1, by omega, by go_num, FIN.out⟩
    · have e : j = d.pd.length := by omega
      subst e
      rw [List.take_length] at HO
      have k0 : wr.cell? ⟨w.heap.size, 0, none⟩ = some (.slice A1 d.st.length c1) := cell_of_block K0.out 0
      have k1 : wr.cell? ⟨w.heap.size, 1, none⟩ = some (.slice A2 d.pd.length c2) := cell_of_block K0.out 1
      have f0 := free_of_block K0.out 0
      have f1 := free_of_block K0.out 1
      have M0 : Hid (((wr.setCell ⟨w.heap.size, 0, none⟩ (.slice A5 d.st.length c5)).setCell ⟨w.heap.size, 1, none⟩ (.slice none 0 0)).heap[w.heap.size]? = some (.cells #[.slice A5 d.st.length c5, .slice none 0 0, .bool q, .int .i64 lr, .bool d.down] 41)) := Lib.hid (hset_at _ w.heap.size 1 _ (hset_at wr w.heap.size 0 _ K0.out))
      have M1 : Hid (((wr.setCell ⟨w.heap.size, 0, none⟩ (.slice A5 d.st.length c5)).setCell ⟨w.heap.size, 1, none⟩ (.slice none 0 0)).heap[w.heap.size + 1]? = some (.cells #[.slice none 0 0, .slice none 0 0, .bool false, .int .i64 0, .bool false] 41)) := Lib.hid ((hset_other _ _ _ (by show w.heap.size + 1 ≠ w.heap.size; omega)).trans ((hset_other _ _ _ (by show w.heap.size + 1 ≠ w.heap.size; omega)).trans K1.out))
      have MB : Hid (Below w.heap.size w ((wr.setCell ⟨w.heap.size, 0, none⟩ (.slice A5 d.st.length c5)).setCell ⟨w.heap.size, 1, none⟩ (.slice none 0 0))) := Lib.hid ((HB.out.setCell (p := ⟨w.heap.size, 0, none⟩) (Nat.le_refl _) _).setCell (p := ⟨w.heap.size, 1, none⟩) (Nat.le_refl _) _)
      have U1 : Hid ((Try.prog.info? 41).map (·.size) = some (#[.slice A5 d.st.length c5, .slice none 0 0, .bool q, .int .i64 lr, .bool d.down] : Array Value).size) := Lib.hid info_rd
      have U3 : Hid ((#[.slice A5 d.st.length c5, .slice none 0 0, .bool q, .int .i64 lr, .bool d.down] : Array Value).all (·.oneCell') = true) := Lib.hid (by simp [Value.oneCell'])
      have B6 := Lib.hid (below_setRow MB.out (by omega : w.heap.size ≤ w.heap.size + 1) #[.slice A5 d.st.length c5, .slice none 0 0, .bool q, .int .i64 lr, .bool d.down])
      have M6 := Lib.hid (setRow_at #[.slice A5 d.st.length c5, .slice none 0 0, .bool q, .int .i64 lr, .bool d.down] M1.out)
      have hl := Dk.length_settle (kf l) d.pd 0 d.st
      have O6 : Hid ((((wr.setCell ⟨w.heap.size, 0, none⟩ (.slice A5 d.st.length c5)).setCell ⟨w.heap.size, 1, none⟩ (.slice none 0 0)).setRow (w.heap.size + 1) #[.slice A5 d.st.length c5, .slice none 0 0, .bool q, .int .i64 lr, .bool d.down]).ownsRow w.heap.size 25 64 (.slice A5 d.st.length c5) d.st.length (sv (Dk.settle (kf l) 0 d.st d.pd)).flatten) :=
        Lib.hid (own_same HO.out fun k hk => (setRow_other _ _ _ _ (own_ne HO.out hk K1.out (by decide))).trans ((hset_other _ _ _ (own_ne HO.out hk K0.out (by decide))).trans (hset_other _ _ _ (own_ne HO.out hk K0.out (by decide)))))
      have RF : Hid (RV (((wr.setCell ⟨w.heap.size, 0, none⟩ (.slice A5 d.st.length c5)).setCell ⟨w.heap.size, 1, none⟩ (.slice none 0 0)).setRow (w.heap.size + 1) #[.slice A5 d.st.length c5, .slice none 0 0, .bool q, .int .i64 lr, .bool d.down]) A5 c5 none 0 lr (settled d l)) := Lib.hid
        ⟨⟨Dk.settle_sec _ _ _ _ H1.out.ok.sec (fun x hx => (H1.out.ok.at_ x hx).2), (fun x hx => by cases hx), H1.out.ok.left⟩, ⟨by show (Dk.settle (kf l) 0 d.st d.pd).length ≤ 512; rw [hl]; exact hfew.1, by show ([] : List (Nat × List Int)).length ≤ _; simp⟩,
          by show World.ownsRow _ 0 _ 64 (.slice A5 (Dk.settle (kf l) 0 d.st d.pd).length c5) (Dk.settle (kf l) 0 d.st d.pd).length (sv (Dk.settle (kf l) 0 d.st d.pd)).flatten; rw [hl]; exact own_base O6.out (Nat.zero_le _),
          World.ownsRow_nil _ _ _ _, H1.out.eq, H1.out.wf⟩
      have VE : Hid (#[.slice A5 d.st.length c5, .slice none 0 0, .bool q, .int .i64 lr, .bool d.down] = rcells A5 c5 none 0 lr (settled d l)) := Lib.hid (by
        show _ = (#[.slice A5 (Dk.settle (kf l) 0 d.st d.pd).length c5, .slice none 0 0, .bool (decide (0 ≤ d.left)), .int .i64 lr, .bool d.down] : Array Value)
        rw [hl, HQ.out])
      clear hl
      go_wp2_with (first
        | refine wpList_load_block rfl 41 (.tmp 2) rfl w.heap.size rfl #[.slice A5 d.st.length c5, .slice none 0 0, .bool q, .int .i64 lr, .bool d.down] 41 (0, 0) M0.out _ Try.underlying41 rfl U1.out ?_
        | refine wpList_store_block rfl 41 (.tmp 4) (.tmp 40) rfl (w.heap.size + 1) #[.slice A5 d.st.length c5, .slice none 0 0, .bool q, .int .i64 lr, .bool d.down] rfl rfl #[.slice none 0 0, .slice none 0 0, .bool false, .int .i64 0, .bool false] 41 M1.out U1.out rfl U3.out ?_)
      exact bodyPost_ret (v := .agg #[.slice A5 d.st.length c5, .slice none 0 0, .bool q, .int .i64 lr, .bool d.down]) (res_cell Try.results31 _ _ (w.heap.size + 1) 41 _ (0, 0) _ rfl M6.out Try.underlying41 rfl U1.out) rfl
        ⟨_, rfl, ⟨A5, c5, none, 0, lr, by rw [VE.out], RF.out, fun k hk => by
          rcases hk with ⟨a, ha, rfl⟩ | ⟨a, ha, rfl⟩
          · right; exact (O6.out.lt a.block (by rw [ha]; rfl)).1
          · cases ha⟩, B6.out⟩
end Go.Proofs.Ytndcgofjhlndgaa.Disk
