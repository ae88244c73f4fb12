/- The document's disk (floodgateref07) as a value, and contracts of its act, Break and Read. Conditions: none beyond each lemma's own hypotheses. -/
import Derived.Test.YtogkibikghbghaaFgDiskNew
set_option linter.unusedVariables false
set_option linter.unusedSimpArgs false
namespace Go.Proofs.Ytogkibikghbghaa.Disk
open Go.RowKit Go.Proofs.Ytogkibikghbghaa.Fg

/-- The value of a disk. -/
def rcells (A1 : Option Addr) (c1 : Nat) (A2 : Option Addr) (c2 : Nat) (lr : Int) (d : Dk) : Array Value := #[.slice A1 d.st.length c1, .slice A2 d.pd.length c2, .bool (decide (0 ≤ d.left)), .int .i64 lr, .bool d.down]
structure RV (w : World) (A1 : Option Addr) (c1 : Nat) (A2 : Option Addr) (c2 : Nat) (lr : Int) (d : Dk) : Prop where
  ok : d.ok
  few : d.st.length ≤ 512 ∧ d.pd.length ≤ 1000000
  st : w.ownsRow 0 77 64 (.slice A1 d.st.length c1) d.st.length (sv d.st).flatten
  pd : w.ownsRow 0 117 65 (.slice A2 d.pd.length c2) d.pd.length (pv d.pd).flatten
  eq : 0 ≤ d.left → lr = d.left
  wf : -9223372036854775808 ≤ lr ∧ lr ≤ 9223372036854775807
/-- The blocks of two slices. -/
def blks (A1 A2 : Option Addr) (k : Nat) : Prop := (∃ a, A1 = some a ∧ a.block = k) ∨ (∃ a, A2 = some a ∧ a.block = k)
theorem RV.same {w w' : World} {A1 A2 : Option Addr} {c1 c2 : Nat} {lr : Int} {d : Dk} (h : RV w A1 c1 A2 c2 lr d) (hb : ∀ k, blks A1 A2 k → k < w.heap.size → w'.heap[k]? = w.heap[k]?) : RV w' A1 c1 A2 c2 lr d :=
  ⟨h.ok, h.few, own_same h.st fun k hk => hb k (by cases A1 with | none => cases hk | some a => injection hk with hk; exact .inl ⟨a, rfl, hk⟩) (h.st.lt k hk).2,
    own_same h.pd fun k hk => hb k (by cases A2 with | none => cases hk | some a => injection hk with hk; exact .inr ⟨a, rfl, hk⟩) (h.pd.lt k hk).2, h.eq, h.wf⟩
theorem RV.below {w w' : World} {A1 A2 : Option Addr} {c1 c2 : Nat} {lr : Int} {d : Dk} (h : RV w A1 c1 A2 c2 lr d) (hb : Below w.heap.size w w') : RV w' A1 c1 A2 c2 lr d := h.same fun k _ hk => hb.block k hk
theorem RV.lt {w : World} {A1 A2 : Option Addr} {c1 c2 : Nat} {lr : Int} {d : Dk} (h : RV w A1 c1 A2 c2 lr d) {k : Nat} (hk : blks A1 A2 k) : k < w.heap.size := by
  rcases hk with ⟨a, rfl, rfl⟩ | ⟨a, rfl, rfl⟩
  · exact (h.st.lt _ rfl).2
  · exact (h.pd.lt _ rfl).2

/-- A disk's value, all of whose blocks are in G. -/
def IsRef (w : World) (v : Value) (d : Dk) (G : Nat → Prop) : Prop := ∃ A1 c1 A2 c2 lr, v = .agg (rcells A1 c1 A2 c2 lr d) ∧ RV w A1 c1 A2 c2 lr d ∧ ∀ k, blks A1 A2 k → G k
theorem IsRef.same {w w' : World} {v : Value} {d : Dk} {G : Nat → Prop} (h : IsRef w v d G) (hb : ∀ k, G k → k < w.heap.size → w'.heap[k]? = w.heap[k]?) : IsRef w' v d G := by
  obtain ⟨A1, c1, A2, c2, lr, e, h1, h2⟩ := h
  exact ⟨A1, c1, A2, c2, lr, e, h1.same fun k hk hlt => hb k (h2 k hk) hlt, h2⟩
theorem IsRef.mono {w : World} {v : Value} {d : Dk} {G G' : Nat → Prop} (h : IsRef w v d G) (hG : ∀ k, k < w.heap.size → G k → G' k) : IsRef w v d G' := by
  obtain ⟨A1, c1, A2, c2, lr, e, h1, h2⟩ := h
  exact ⟨A1, c1, A2, c2, lr, e, h1, fun k hk => hG k (h1.lt hk) (h2 k hk)⟩
/-- What an operation hands back: another disk, in older blocks of G or in new ones. -/
def RefE (w : World) (d : Dk) (G : Nat → Prop) (r : Int) (e : Ending) (w' : World) : Prop := ∃ v, e = .returned (.tuple #[v, .int .i64 r]) ∧ IsRef w' v d (fun k => G k ∨ w.heap.size ≤ k) ∧ Below w.heap.size w w'
def RefD (w : World) (d : Dk) (G : Nat → Prop) (e : Ending) (w' : World) : Prop := ∃ v, e = .returned v ∧ IsRef w' v d (fun k => G k ∨ w.heap.size ≤ k) ∧ Below w.heap.size w w'

theorem refact_any {w : World} {v : Value} {d : Dk} {G : Nat → Prop} (h : IsRef w v d G) :
    Calls Try.prog 51 #[v] w (RefE w d.act G d.actE) := by
  obtain ⟨A1, c1, A2, c2, lr, rfl, h1, h2⟩ := h
  have H1 := Lib.hid h1
  have H2 := Lib.hid h2
  have hl := h1.ok.left
  have hw := h1.wf
  have hlr := h1.eq
  have fin : ∀ (d' : Dk) (lr' r : Int) (w' : World), d'.ok → d'.st = d.st → d'.pd = d.pd → (0 ≤ d'.left → lr' = d'.left) → (-9223372036854775808 ≤ lr' ∧ lr' ≤ 9223372036854775807) → Below w.heap.size w w' → RefE w d' G r (.returned (.tuple #[.agg #[.slice A1 d.st.length c1, .slice A2 d.pd.length c2, .bool (decide (0 ≤ d'.left)), .int .i64 lr', .bool d'.down], .int .i64 r])) w' := by
    intro d' lr' r w' hok e1 e2 e3 e4 hb
    refine ⟨_, rfl, ⟨A1, c1, A2, c2, lr', by rw [rcells, e1, e2], ?_, fun k hk => .inl (H2.out k hk)⟩, hb⟩
    have h3 := H1.out.below hb
    exact ⟨hok, by rw [e1, e2]; exact h3.few, by rw [e1]; exact h3.st, by rw [e2]; exact h3.pd, e3, e4⟩
  have FIN := Lib.hid fin
  have AO := Lib.hid (Dk.act_ok h1.ok)
  clear h1 h2 fin
  unfold rcells
  by_cases hd : d.down = true
  · have HE : Hid (d.act = d ∧ d.actE = 72) := Lib.hid ⟨if_pos hd, if_pos hd⟩
    have HF := Lib.hid (fun w' => FIN.out d lr 72 w' H1.out.ok rfl rfl hlr hw)
    rw [hd] at HF
    rw [hd]
    clear hlr hl hd
    generalize decide (0 ≤ d.left) = q at *
    go_enter Try.func51, Try.ntmps51
    go_wp2_with fail
    rw [HE.out.1, HE.out.2]
    exact bodyPost_ret (v := .tuple #[.agg #[.slice A1 d.st.length c1, .slice A2 d.pd.length c2, .bool q, .int .i64 lr, .bool true], .int .i64 72]) (by simp [results, Try.results51, go_sem]) rfl (HF.out _ (by repeat (first | exact Below.refl _ _ | refine Below.setCell ?_ (by simp) _ | refine Below.alloc ?_ (by simp) _)))
  · have hd' : d.down = false := by simpa using hd
    by_cases hm : d.left = -1
    · have HE : Hid (d.act = d ∧ d.actE = 0) := Lib.hid ⟨(if_neg hd).trans (if_pos hm), (if_neg hd).trans (if_pos hm)⟩
      have HF := Lib.hid (fun w' => FIN.out d lr 0 w' H1.out.ok rfl rfl hlr hw)
      have hq : decide (0 ≤ d.left) = false := by rw [hm]; rfl
      rw [hd', hq] at HF
      rw [hd', hq]
      clear hlr hl hd hd' hm hq
      go_enter Try.func51, Try.ntmps51
      go_wp2_with fail
      rw [HE.out.1, HE.out.2]
      exact bodyPost_ret (v := .tuple #[.agg #[.slice A1 d.st.length c1, .slice A2 d.pd.length c2, .bool false, .int .i64 lr, .bool false], .int .i64 0]) (by simp [results, Try.results51, go_sem]) rfl (HF.out _ (by repeat (first | exact Below.refl _ _ | refine Below.setCell ?_ (by simp) _ | refine Below.alloc ?_ (by simp) _)))
    · have hq : decide (0 ≤ d.left) = true := by simp; omega
      have hlr' := hlr (by omega)
      by_cases hp : 0 < d.left
      · have HE : Hid (d.act = { d with left := d.left - 1 } ∧ d.actE = 0) := Lib.hid ⟨((if_neg hd).trans (if_neg hm)).trans (if_pos hp), ((if_neg hd).trans (if_neg hm)).trans (if_pos hp)⟩
        have hq2 : decide (0 ≤ d.left - 1) = true := by simp; omega
        have HF : Hid (∀ w', Below w.heap.size w w' → RefE w d.act G 0 (.returned (.tuple #[.agg #[.slice A1 d.st.length c1, .slice A2 d.pd.length c2, .bool true, .int .i64 (d.left - 1), .bool false], .int .i64 0])) w') := Lib.hid (fun w' hb => by
          have h := FIN.out { d with left := d.left - 1 } (d.left - 1) 0 w' (HE.out.1 ▸ AO.out) rfl rfl (fun _ => rfl) (by omega) hb
          rw [HE.out.1]
          simp only [hd', hq2] at h ⊢
          exact h)
        rw [hd', hq, hlr']
        have h0 : (d.left == 0) = false := beq_eq_false_iff_ne.2 (by omega)
        clear hlr hd hd' hm hq hlr' hq2
        go_enter Try.func51, Try.ntmps51
        go_wp2_with fail
        rw [HE.out.2]
        exact bodyPost_ret (v := .tuple #[.agg #[.slice A1 d.st.length c1, .slice A2 d.pd.length c2, .bool true, .int .i64 (d.left - 1), .bool false], .int .i64 0]) (by simp [results, Try.results51, go_sem]) rfl (HF.out _ (by repeat (first | exact Below.refl _ _ | refine Below.setCell ?_ (by simp) _ | refine Below.alloc ?_ (by simp) _)))
      · have h0 : d.left = 0 := by omega
        have HE : Hid (d.act = { d with down := true } ∧ d.actE = 72) := Lib.hid ⟨((if_neg hd).trans (if_neg hm)).trans (if_neg hp), ((if_neg hd).trans (if_neg hm)).trans (if_neg hp)⟩
        have HF : Hid (∀ w', Below w.heap.size w w' → RefE w d.act G 72 (.returned (.tuple #[.agg #[.slice A1 d.st.length c1, .slice A2 d.pd.length c2, .bool true, .int .i64 0, .bool true], .int .i64 72])) w') := Lib.hid (fun w' hb => by
          have h := FIN.out { d with down := true } lr 72 w' (HE.out.1 ▸ AO.out) rfl rfl hlr hw hb
          rw [HE.out.1]
          simp only [hq] at h ⊢
          rw [hlr'] at h
          rw [h0] at h ⊢
          exact h)
        rw [hd', hq, hlr', h0]
        clear hlr hd hd' hm hq hlr' hp hl h0
        go_enter Try.func51, Try.ntmps51
        go_wp2_with fail
        rw [HE.out.2]
        exact bodyPost_ret (v := .tuple #[.agg #[.slice A1 d.st.length c1, .slice A2 d.pd.length c2, .bool true, .int .i64 0, .bool true], .int .i64 72]) (by simp [results, Try.results51, go_sem]) rfl (HF.out _ (by repeat (first | exact Below.refl _ _ | refine Below.setCell ?_ (by simp) _ | refine Below.alloc ?_ (by simp) _)))
end Go.Proofs.Ytogkibikghbghaa.Disk

namespace Go.Proofs.Ytogkibikghbghaa.Disk
open Go.RowKit Go.Proofs.Ytogkibikghbghaa.Fg

theorem refbrk_any {w : World} {v : Value} {d : Dk} {G : Nat → Prop} (h : IsRef w v d G) (n : Int) (hn : -9223372036854775808 ≤ n ∧ n ≤ 9223372036854775807) :
    Calls Try.prog 27 #[v, .int .i64 n] w (RefD w (d.brk n) G) := by
  obtain ⟨A1, c1, A2, c2, lr, rfl, h1, h2⟩ := h
  have HF : Hid (∀ w', Below w.heap.size w w' → RefD w (d.brk n) G (.returned (.agg #[.slice A1 d.st.length c1, .slice A2 d.pd.length c2, .bool (decide (0 ≤ n)), .int .i64 n, .bool d.down])) w') := Lib.hid (fun w' hb => by
    have h3 := h1.below hb
    have e : decide (0 ≤ (d.brk n).left) = decide (0 ≤ n) := by
      show decide (0 ≤ (if n < -1 then -1 else n : Int)) = _
      split
      · rw [Bool.eq_iff_iff]; simp; omega
      · rfl
    refine ⟨_, rfl, ⟨A1, c1, A2, c2, n, by rw [rcells, e]; rfl, ⟨Dk.brk_ok h3.ok hn.2, h3.few, h3.st, h3.pd, fun h0 => ?_, hn⟩, fun k hk => .inl (h2 k hk)⟩, hb⟩
    have h0' : 0 ≤ (if n < -1 then -1 else n : Int) := h0
    show n = (if n < -1 then -1 else n : Int)
    split at h0' <;> omega)
  clear h1 h2 hn
  unfold rcells
  generalize decide (0 ≤ d.left) = q at *
  go_enter Try.func27, Try.ntmps27
  go_wp2_with fail
  exact bodyPost_ret (v := .agg #[.slice A1 d.st.length c1, .slice A2 d.pd.length c2, .bool (decide (0 ≤ n)), .int .i64 n, .bool d.down]) (by simp [results, Try.results27, go_sem]) rfl (HF.out _ (by repeat (first | exact Below.refl _ _ | refine Below.setCell ?_ (by simp) _ | refine Below.alloc ?_ (by simp) _)))

theorem last_none {i : Int} {d : Dk} {j : Nat} {x : Nat × List Int} (hx : d.pd[j]? = some x) (out : List Int) (hne : ¬ (x.1 : Int) = i) : Dk.last i out (d.pd.take (j + 1)) = Dk.last i out (d.pd.take j) := by
  have ht : d.pd.take (j + 1) = d.pd.take j ++ [x] := by rw [List.take_add_one, hx]; rfl
  rw [ht, Dk.last_snoc, if_neg hne]
theorem last_some {i : Int} {d : Dk} {j : Nat} {x : Nat × List Int} (hx : d.pd[j]? = some x) (out : List Int) (he : (x.1 : Int) = i) : Dk.last i out (d.pd.take (j + 1)) = x.2 := by
  have ht : d.pd.take (j + 1) = d.pd.take j ++ [x] := by rw [List.take_add_one, hx]; rfl
  rw [ht, Dk.last_snoc, if_pos he]
theorem RV.rows {w : World} {A1 A2 : Option Addr} {c1 c2 : Nat} {lr : Int} {d : Dk} (h : RV w A1 c1 A2 c2 lr d) : RowsAt w A1 64 (sv d.st) ∧ RowsAt w A2 65 (d.pd.map wrow) :=
  ⟨RowsAt.of_own h.st (sv_len h.ok.sec) (by decide), RowsAt.of_own h.pd (pv_len fun x hx => (h.ok.at_ x hx).2) (by decide)⟩

set_option maxRecDepth 100000 in
set_option maxHeartbeats 1000000 in
theorem refread_any {w : World} {v : Value} {d : Dk} {G : Nat → Prop} (h : IsRef w v d G) (i : Int) :
    Calls Try.prog 67 #[v, .int .i64 i] w (SecE w (d.read i) (d.sErr i)) := by
  obtain ⟨A1, c1, A2, c2, lr, rfl, h1, -⟩ := h
  have HR := Lib.hid h1.rows
  have hfew := h1.few
  have HOK := Lib.hid h1.ok
  have B0 : Hid (Below w.heap.size w ((w.alloc (.cells (rcells A1 c1 A2 c2 lr d) 59)).alloc (.cells (bv noSec).toArray 77))) := Lib.hid (((Below.refl _ _).alloc (Nat.le_refl _) _).alloc (by simp) _)
  have K0 : Hid (((w.alloc (.cells (rcells A1 c1 A2 c2 lr d) 59)).alloc (.cells (bv noSec).toArray 77)).heap[w.heap.size]? = some (.cells (rcells A1 c1 A2 c2 lr d) 59)) := Lib.hid ((heap_alloc_old _ _ (by simp)).trans (heap_alloc_at w _))
  have K1 : Hid (((w.alloc (.cells (rcells A1 c1 A2 c2 lr d) 59)).alloc (.cells (bv noSec).toArray 77)).heap[w.heap.size + 1]? = some (.cells (bv noSec).toArray 77)) := Lib.hid (by
    have := heap_alloc_at (w.alloc (.cells (rcells A1 c1 A2 c2 lr d) 59)) (.cells (bv noSec).toArray 77)
    simpa using this)
  have fin : ∀ (s : List Int) (w2 : World), Below w.heap.size w w2 → w2.heap[w.heap.size + 1]? = some (.cells (bv noSec).toArray 77) → Below w.heap.size w (w2.setRow (w.heap.size + 1) (bv s).toArray) ∧ (w2.setRow (w.heap.size + 1) (bv s).toArray).heap[w.heap.size + 1]? = some (.cells (bv s).toArray 77) :=
    fun s w2 hb hk => ⟨below_setRow hb (by omega) _, setRow_at _ hk⟩
  have FIN := Lib.hid fin
  clear h1 fin
  by_cases hd : d.there i = true
  · have hb : 0 ≤ i ∧ i < (d.st.length : Int) := by simpa [Dk.there] using hd
    obtain ⟨hb0, hb1⟩ := hb
    obtain ⟨n, rfl⟩ := Int.eq_ofNat_of_zero_le hb0
    have hn : n < d.st.length := by omega
    have HE : Hid (d.sErr n = 0) := Lib.hid (if_pos hd)
    have HRD : Hid (d.read n = Dk.last n (d.stable n) d.pd) := Lib.hid (by rw [Dk.read, Dk.stable, if_pos hd, if_pos hd])
    obtain ⟨ps, rfl, hps, hrs⟩ := HR.out.1 n (bv (d.stable n)) (by rw [Dk.stable, if_pos hd]; simp [sv, hn])
    have HPS := Lib.hid hrs
    clear hd hrs
    go_enter Try.func67, Try.ntmps67
    go_upto_region 1 with (refine wpList_alloc_as rfl 77 rfl (bv noSec).toArray secZero ?_)
    generalize (w.alloc (.cells (rcells (some ⟨ps, 0, none⟩) c1 A2 c2 lr d) 59)).alloc (.cells (bv noSec).toArray 77) = w2 at *
    have c0 : w2.cell? ⟨w.heap.size, 0, none⟩ = some (.slice (some ⟨ps, 0, none⟩) d.st.length c1) := cell_of_block K0.out 0
    have c1' : w2.cell? ⟨w.heap.size, 1, none⟩ = some (.slice A2 d.pd.length c2) := cell_of_block K0.out 1
    have hR : Hid (Fg.RowsAt w2 A2 65 (d.pd.map wrow)) := Lib.hid (HR.out.2.below B0.out)
    have hP : Hid (w2.rangeAt ps (n * 64) (bv (d.stable n))) := Lib.hid (fun j v hv => (B0.out.cell (p := ⟨ps, n * 64 + j, none⟩) hps).trans (HPS.out j v hv))
    go_wp2_with fail
    go_loopg [6] d.pd.length (fun k v wr => ∃ x : Int, x + 1 = k ∧ k ≤ d.pd.length ∧ v = .int .i64 x ∧ Hid (Dk.last n (d.stable n) d.pd = Dk.last n (d.stable n) (d.pd.take k)) ∧ wr = w2)
    case atStart => exact ⟨_, by omega, Nat.le_refl _, rfl, Lib.hid (by rw [List.take_length]), rfl⟩
    case round =>
      obtain ⟨x, hx, hk, rfl, HL, rfl⟩ := hrel
      by_cases h0 : gk = 0
      · subst h0
        obtain rfl : x = -1 := by omega
        have HRD2 : Hid (d.read n = d.stable n) := Lib.hid (by rw [HRD.out, HL.out]; rfl)
        have Z1 : Hid ((Try.prog.info? 77).map (·.size) = some (bv (d.stable n)).length) := Lib.hid (by rw [secSize, bv_length, Dk.stable_64 HOK.out])
        have Z2 := Lib.hid (sec_toArray (Dk.stable_64 HOK.out n))
        have Z3 : Hid ((bv noSec).toArray.size = (bv (d.stable n)).toArray.size) := Lib.hid (by simp [bv, Dk.stable_64 HOK.out, noSec])
        have Z4 := Lib.hid (sec_one (d.stable n))
        obtain ⟨B3, K3⟩ := FIN.out (d.stable n) _ B0.out K1.out
        have HB3 := Lib.hid B3
        have HK3 := Lib.hid K3
        clear B3 K3
        go_wp2_with (first
          | refine wpList_load_mid rfl 77 (.tmp 42) rfl ps (n * 64) rfl (bv (d.stable n)) _ hP.out secUnder rfl Z1.out ?_
          | refine wpList_store_block rfl 77 (.tmp 4) (.tmp 43) rfl (w.heap.size + 1) (bv (d.stable n)).toArray rfl rfl (bv noSec).toArray 77 K1.out Z2.out Z3.out Z4.out ?_)
        exact bodyPost_ret (v := .tuple #[.agg (bv (d.stable n)).toArray, .int .i64 0]) (res_cell_tmp Try.results67 _ _ (w.heap.size + 1) 77 _ (0, 0) _ _ rfl rfl HK3.out secUnder rfl Z2.out) rfl ⟨by rw [HRD2.out, HE.out], HB3.out⟩
      · obtain ⟨q, rfl⟩ : ∃ q, gk = q + 1 := ⟨gk - 1, by omega⟩
        obtain rfl : x = (q : Int) := by omega
        obtain ⟨y, hy⟩ : ∃ y, d.pd[q]? = some y := ⟨_, List.getElem?_eq_getElem (by omega)⟩
        obtain ⟨p, rfl, hp1, hp2⟩ := hR.out q (wrow y) (by rw [List.getElem?_map, hy]; rfl)
        have q0 : wr.cell? ⟨p, q * 65, none⟩ = some (.int .i64 y.1) := hp2 0 _ rfl
        have Q1 : Hid (wr.rangeAt p (q * 65 + 1) (bv y.2)) := Lib.hid (fun i v hv => by have := hp2 (i + 1) v hv; rw [show q * 65 + 1 + i = q * 65 + (i + 1) by omega]; exact this)
        have hql : q < d.pd.length := by omega
        have HY := Lib.hid hy
        clear hp2 hy
        by_cases he : (y.1 : Int) = n
        · have heb : ((y.1 : Int) == (n : Int)) = true := beq_iff_eq.2 he
          have hy64 : y.2.length = 64 := (HOK.out.at_ y (List.mem_of_getElem? HY.out)).2
          have HRD2 : Hid (d.read n = y.2) := Lib.hid (by rw [HRD.out, HL.out, last_some HY.out _ he])
          have Z1 : Hid ((Try.prog.info? 77).map (·.size) = some (bv y.2).length) := Lib.hid (by rw [secSize, bv_length, hy64])
          have Z2 := Lib.hid (sec_toArray hy64)
          have Z3 : Hid ((bv noSec).toArray.size = (bv y.2).toArray.size) := Lib.hid (by simp [bv, hy64, noSec])
          have Z4 := Lib.hid (sec_one y.2)
          obtain ⟨B3, K3⟩ := FIN.out y.2 _ B0.out K1.out
          have HB3 := Lib.hid B3
          have HK3 := Lib.hid K3
          clear B3 K3 he hy64
          go_wp2_with (first
            | refine wpList_load_mid rfl 77 (.tmp 37) rfl p (q * 65 + 1) rfl (bv y.2) _ Q1.out secUnder rfl Z1.out ?_
            | refine wpList_store_block rfl 77 (.tmp 4) (.tmp 38) rfl (w.heap.size + 1) (bv y.2).toArray rfl rfl (bv noSec).toArray 77 K1.out Z2.out Z3.out Z4.out ?_)
          exact bodyPost_ret (v := .tuple #[.agg (bv y.2).toArray, .int .i64 0]) (res_cell_tmp Try.results67 _ _ (w.heap.size + 1) 77 _ (0, 0) _ _ rfl rfl HK3.out secUnder rfl Z2.out) rfl ⟨by rw [HRD2.out, HE.out], HB3.out⟩
        · have heb : ((y.1 : Int) == (n : Int)) = false := beq_eq_false_iff_ne.2 he
          have HL2 : Hid (Dk.last n (d.stable n) d.pd = Dk.last n (d.stable n) (d.pd.take q)) := Lib.hid (HL.out.trans (last_none HY.out _ he))
          clear he
          go_wp2_with fail
          go_roundg q
          case measure => omega
          case rel => exact ⟨(q : Int) - 1, by omega, by omega, rfl, HL2, rfl⟩
  · have HE : Hid (d.sErr i = 71) := Lib.hid (if_neg hd)
    have HRD : Hid (d.read i = noSec) := Lib.hid (if_neg hd)
    have Z2 := Lib.hid (sec_toArray Dk.noSec_len)
    have Z4 := Lib.hid (sec_one noSec)
    obtain ⟨B3, K3⟩ := FIN.out noSec _ B0.out K1.out
    have HB3 := Lib.hid B3
    have HK3 := Lib.hid K3
    have hb : i < 0 ∨ (d.st.length : Int) ≤ i := by
      simp only [Dk.there, Bool.and_eq_true, decide_eq_true_eq] at hd
      omega
    clear hd B3 K3
    by_cases hi : i < 0
    · go_enter Try.func67, Try.ntmps67
      go_upto_region 1 with (refine wpList_alloc_as rfl 77 rfl (bv noSec).toArray secZero ?_)
      generalize (w.alloc (.cells (rcells A1 c1 A2 c2 lr d) 59)).alloc (.cells (bv noSec).toArray 77) = w2 at *
      have c0 : w2.cell? ⟨w.heap.size, 0, none⟩ = some (.slice A1 d.st.length c1) := cell_of_block K0.out 0
      go_wp2_with (first
        | refine wpList_build_as rfl 77 #[] rfl (bv noSec).toArray secBuilt0 ?_
        | refine wpList_store_block rfl 77 (.tmp 4) (.tmp 16) rfl (w.heap.size + 1) (bv noSec).toArray rfl rfl (bv noSec).toArray 77 K1.out Z2.out rfl Z4.out ?_)
      exact bodyPost_ret (v := .tuple #[.agg (bv noSec).toArray, .int .i64 71]) (res_cell_tmp Try.results67 _ _ (w.heap.size + 1) 77 _ (0, 0) _ _ rfl rfl HK3.out secUnder rfl Z2.out) rfl ⟨by rw [HRD.out, HE.out], HB3.out⟩
    · have hi2 : (d.st.length : Int) ≤ i := by omega
      go_enter Try.func67, Try.ntmps67
      go_upto_region 1 with (refine wpList_alloc_as rfl 77 rfl (bv noSec).toArray secZero ?_)
      generalize (w.alloc (.cells (rcells A1 c1 A2 c2 lr d) 59)).alloc (.cells (bv noSec).toArray 77) = w2 at *
      have c0 : w2.cell? ⟨w.heap.size, 0, none⟩ = some (.slice A1 d.st.length c1) := cell_of_block K0.out 0
      go_wp2_with (first
        | refine wpList_build_as rfl 77 #[] rfl (bv noSec).toArray secBuilt0 ?_
        | refine wpList_store_block rfl 77 (.tmp 4) (.tmp 16) rfl (w.heap.size + 1) (bv noSec).toArray rfl rfl (bv noSec).toArray 77 K1.out Z2.out rfl Z4.out ?_)
      exact bodyPost_ret (v := .tuple #[.agg (bv noSec).toArray, .int .i64 71]) (res_cell_tmp Try.results67 _ _ (w.heap.size + 1) 77 _ (0, 0) _ _ rfl rfl HK3.out secUnder rfl Z2.out) rfl ⟨by rw [HRD.out, HE.out], HB3.out⟩
end Go.Proofs.Ytogkibikghbghaa.Disk

namespace Go.Proofs.Ytogkibikghbghaa.Disk
open Go.RowKit Go.Proofs.Ytogkibikghbghaa.Fg

theorem rwrZero : (Try.prog.info? 117).map (·.zero) = some (some (.agg (.int .i64 0 :: bv noSec).toArray)) := by kernel_rfl
theorem rwrSize : (Try.prog.info? 117).map (·.size) = some 65 := by kernel_rfl
theorem rwrInfo : (Try.prog.info? 117).map (fun i => (i.zero, i.size, i.bytes)) = some (some (.agg (.int .i64 0 :: bv noSec).toArray), 65, 72) := by kernel_rfl
theorem rwrInfo2 : (Try.prog.info? 117).map (fun i => (i.zero, i.size)) = some (some (.agg (.int .i64 0 :: bv noSec).toArray), 65) := by kernel_rfl
set_option maxRecDepth 100000 in
theorem rwrBuilt (n : Nat) (s : List Int) (hs : s.length = 64) : Try.prog.built 117 [(0, .int .i64 n), (1, .agg (bv s).toArray)] = some (wrow (n, s)).toArray := by
  have hp : ((Try.prog.fieldsOf 117).toList.mapM fun f => (Try.prog.info? f.type).map fun i => (f.offset, i.size)) = some [(0, 1), (1, 64)] := by kernel_rfl
  rw [built_struct rwrZero (Try.underlying117) hp]
  rw [fill_one 0 1 rfl rfl (by simp [Value.cells, noSec, bv]), fill_one 1 64 rfl (by simp [Value.cells, bv, hs]) (by simp [Value.cells, noSec, bv, lay])]
  simp only [Instr.fill, Option.some.injEq]
  congr 1
  simp [lay, Value.cells, wrow, bv, noSec, hs]
theorem own_ne {w : World} {base : Nat} {e : TypeId} {size n : Nat} {v : Value} {xs : List Value} (h : w.ownsRow base e size v n xs) {k b : Nat} (hk : v.ownBlock = some k) {cs : Array Value} {t : TypeId} {fr : Nat × Nat} (hb : w.heap[b]? = some (.cells cs t fr)) (ht : t ≠ e) : k ≠ b :=
  fun e' => ht (own_type h hk (e' ▸ hb))
/-- Where a block that is no row of the disk's turns, the disk stays. -/
theorem RV.boxed {w w' : World} {A1 A2 : Option Addr} {c1 c2 : Nat} {lr : Int} {d : Dk} (h : RV w A1 c1 A2 c2 lr d) {b : Nat} {cs : Array Value} {t : TypeId} {fr : Nat × Nat} (hb : w.heap[b]? = some (.cells cs t fr)) (h1 : t ≠ 77) (h2 : t ≠ 117)
    (hw : ∀ k, k < w.heap.size → k ≠ b → w'.heap[k]? = w.heap[k]?) : RV w' A1 c1 A2 c2 lr d :=
  ⟨h.ok, h.few, own_same h.st fun k hk => hw k (h.st.lt k hk).2 (own_ne h.st hk hb h1), own_same h.pd fun k hk => hw k (h.pd.lt k hk).2 (own_ne h.pd hk hb h2), h.eq, h.wf⟩
theorem pv_one (l : List (Nat × List Int)) : ∀ u ∈ (pv l).flatten, u.oneCell' = true := by
  intro u hu
  obtain ⟨r, hr, hu⟩ := List.mem_flatten.1 hu
  obtain ⟨x, hx, rfl⟩ := List.mem_map.1 hr
  rcases List.mem_cons.1 hu with rfl | hu
  · rfl
  · exact bv_one _ u hu
theorem wrow_one' (x : Nat × List Int) : ∀ u ∈ wrow x, u.oneCell' = true := by
  intro u hu
  rcases List.mem_cons.1 hu with rfl | hu
  · rfl
  · exact bv_one _ u hu
theorem sv_one (l : List (List Int)) : ∀ u ∈ (sv l).flatten, u.oneCell' = true := by
  intro u hu
  obtain ⟨r, hr, hu⟩ := List.mem_flatten.1 hu
  obtain ⟨x, hx, rfl⟩ := List.mem_map.1 hr
  exact bv_one _ u hu
theorem info_rd : (Try.prog.info? 59).map (·.size) = some 5 := by kernel_rfl

set_option maxRecDepth 100000 in
set_option maxHeartbeats 2000000 in
theorem refput_any {w : World} {v : Value} {d : Dk} {G : Nat → Prop} (h : IsRef w v d G) (i : Int) (s : List Int) (hs : s.length = 64) (hn : d.pd.length < 1000000) :
    Calls Try.prog 50 #[v, .int .i64 i, .agg (bv s).toArray] w (RefE w (d.put i s) G (d.putE i)) := by
  obtain ⟨A1, c1, A2, c2, lr, rfl, h1, h2⟩ := h
  have H1 := Lib.hid h1
  have H2 := Lib.hid h2
  have HS := Lib.hid hs
  have HN := Lib.hid hn
  clear h1 h2 hs hn
  by_cases hd : d.there i = true
  · have hb : 0 ≤ i ∧ i < (d.st.length : Int) := by simpa [Dk.there] using hd
    obtain ⟨hb0, hb1⟩ := hb
    obtain ⟨n, rfl⟩ := Int.eq_ofNat_of_zero_le hb0
    have hn : n < d.st.length := by omega
    have PE : Hid (d.putE n = d.actE) := Lib.hid (if_pos hd)
    have PP : Hid (d.put n s = if d.actE = 0 then { d.act with pd := d.pd ++ [(n, s)] } else d.act) := Lib.hid (if_pos hd)
    clear hd
    obtain ⟨q, hq⟩ : ∃ q, decide (0 ≤ d.left) = q := ⟨_, rfl⟩
    have HQ := Lib.hid hq
    unfold rcells
    rw [hq]
    clear hq
    have B1 : Hid (Below w.heap.size w (((w.alloc (.cells #[.slice A1 d.st.length c1, .slice A2 d.pd.length c2, .bool q, .int .i64 lr, .bool d.down] 59)).alloc (.cells (bv s).toArray 77)).alloc (.cells #[.slice none 0 0, .slice none 0 0, .bool false, .int .i64 0, .bool false] 59))) := Lib.hid ((((Below.refl _ _).alloc (Nat.le_refl _) _).alloc (by simp) _).alloc (by simp; omega) _)
    have K3 : Hid ((((w.alloc (.cells #[.slice A1 d.st.length c1, .slice A2 d.pd.length c2, .bool q, .int .i64 lr, .bool d.down] 59)).alloc (.cells (bv s).toArray 77)).alloc (.cells #[.slice none 0 0, .slice none 0 0, .bool false, .int .i64 0, .bool false] 59)).heap[w.heap.size]? = some (.cells #[.slice A1 d.st.length c1, .slice A2 d.pd.length c2, .bool q, .int .i64 lr, .bool d.down] 59)) := Lib.hid ((heap_alloc_old _ _ (by simp; omega)).trans ((heap_alloc_old _ _ (by simp)).trans (heap_alloc_at w _)))
    have K5 : Hid ((((w.alloc (.cells #[.slice A1 d.st.length c1, .slice A2 d.pd.length c2, .bool q, .int .i64 lr, .bool d.down] 59)).alloc (.cells (bv s).toArray 77)).alloc (.cells #[.slice none 0 0, .slice none 0 0, .bool false, .int .i64 0, .bool false] 59)).heap[w.heap.size + 1]? = some (.cells (bv s).toArray 77)) := Lib.hid ((heap_alloc_old _ _ (by simp)).trans (by
      have := heap_alloc_at (w.alloc (.cells #[.slice A1 d.st.length c1, .slice A2 d.pd.length c2, .bool q, .int .i64 lr, .bool d.down] 59)) (.cells (bv s).toArray 77)
      simpa using this))
    have K6 : Hid ((((w.alloc (.cells #[.slice A1 d.st.length c1, .slice A2 d.pd.length c2, .bool q, .int .i64 lr, .bool d.down] 59)).alloc (.cells (bv s).toArray 77)).alloc (.cells #[.slice none 0 0, .slice none 0 0, .bool false, .int .i64 0, .bool false] 59)).heap[w.heap.size + 1 + 1]? = some (.cells #[.slice none 0 0, .slice none 0 0, .bool false, .int .i64 0, .bool false] 59)) := Lib.hid (by
      have := heap_alloc_at ((w.alloc (.cells #[.slice A1 d.st.length c1, .slice A2 d.pd.length c2, .bool q, .int .i64 lr, .bool d.down] 59)).alloc (.cells (bv s).toArray 77)) (.cells #[.slice none 0 0, .slice none 0 0, .bool false, .int .i64 0, .bool false] 59)
      simpa using this)
    have AC := Lib.hid (fun w1 hb => refact_any (w := w1) (v := .agg #[.slice A1 d.st.length c1, .slice A2 d.pd.length c2, .bool q, .int .i64 lr, .bool d.down]) (d := d) (G := G) ⟨A1, c1, A2, c2, lr, by rw [rcells, HQ.out], H1.out.below hb, H2.out⟩ : ∀ w1, Below w.heap.size w w1 → _)
    go_enter Try.func50, Try.ntmps50
    go_wp2_with fail
    generalize (((w.alloc (.cells #[.slice A1 d.st.length c1, .slice A2 d.pd.length c2, .bool q, .int .i64 lr, .bool d.down] 59)).alloc (.cells (bv s).toArray 77)).alloc (.cells #[.slice none 0 0, .slice none 0 0, .bool false, .int .i64 0, .bool false] 59)) = w1 at *
    refine (AC.out w1 B1.out).mono ?_
    rintro e w2 ⟨v2, rfl, ⟨A3, c3, A4, c4, lr2, rfl, r2, g2⟩, hb2⟩
    have R2 := Lib.hid r2
    have G2 := Lib.hid g2
    have B2 := Lib.hid hb2
    have D2 : Hid (Below w.heap.size w w2) := Lib.hid (B1.out.trans (hb2.mono B1.out.size))
    have L3 := Lib.hid ((hb2.block _ (block_lt K3.out)).trans K3.out)
    have L5 := Lib.hid ((hb2.block _ (block_lt K5.out)).trans K5.out)
    have L6 := Lib.hid ((hb2.block _ (block_lt K6.out)).trans K6.out)
    have S3 : Hid (w2.heap[w.heap.size]? = some (.cells #[.slice A1 d.st.length c1, .slice A2 d.pd.length c2, .bool q, .int .i64 lr, .bool d.down] 59) → (w2.setRow w.heap.size (rcells A3 c3 A4 c4 lr2 d.act)).heap[w.heap.size]? = some (.cells (rcells A3 c3 A4 c4 lr2 d.act) 59)) := Lib.hid (fun h => setRow_at _ h)
    have HST : Hid (d.act.st = d.st) := Lib.hid (Dk.act_st d)
    have HPD : Hid (d.act.pd = d.pd) := Lib.hid (Dk.act_pd d)
    have W1 := Lib.hid (info_rd.trans (by rfl : (some 5 : Option Nat) = some (rcells A3 c3 A4 c4 lr2 d.act).size))
    have W2 : Hid ((#[.slice A1 d.st.length c1, .slice A2 d.pd.length c2, .bool q, .int .i64 lr, .bool d.down] : Array Value).size = (rcells A3 c3 A4 c4 lr2 d.act).size) := Lib.hid rfl
    have W3 : Hid ((rcells A3 c3 A4 c4 lr2 d.act).all (·.oneCell') = true) := Lib.hid (by simp [rcells, Value.oneCell'])
    have X3 := Lib.hid (S3.out L3.out)
    have BB := Lib.hid (below_setRow D2.out (Nat.le_refl _) (rcells A3 c3 A4 c4 lr2 d.act))
    have X5 : Hid ((w2.setRow w.heap.size (rcells A3 c3 A4 c4 lr2 d.act)).heap[w.heap.size + 1]? = some (.cells (bv s).toArray 77)) := Lib.hid ((setRow_other _ _ _ _ (by omega)).trans L5.out)
    have X6 : Hid ((w2.setRow w.heap.size (rcells A3 c3 A4 c4 lr2 d.act)).heap[w.heap.size + 1 + 1]? = some (.cells #[.slice none 0 0, .slice none 0 0, .bool false, .int .i64 0, .bool false] 59)) := Lib.hid ((setRow_other _ _ _ _ (by omega)).trans L6.out)
    have RX : Hid (RV (w2.setRow w.heap.size (rcells A3 c3 A4 c4 lr2 d.act)) A3 c3 A4 c4 lr2 d.act) := Lib.hid (r2.boxed L3.out (by decide) (by decide) (fun k hk hne => setRow_other _ _ _ _ hne))
    clear r2 g2 hb2 S3
    go_upto_region 4 with (refine wpList_store_block rfl 59 (.tmp 3) (.tmp 23) rfl w.heap.size (rcells A3 c3 A4 c4 lr2 d.act) rfl rfl #[.slice A1 d.st.length c1, .slice A2 d.pd.length c2, .bool q, .int .i64 lr, .bool d.down] 59 L3.out W1.out W2.out W3.out ?_)
    generalize w2.setRow w.heap.size (rcells A3 c3 A4 c4 lr2 d.act) = w3 at *
    by_cases ha : d.actE = 0
    · have hae : (d.actE == 0) = true := beq_iff_eq.2 ha
      have PP' : Hid (d.put n s = { d.act with pd := d.act.pd ++ [(n, s)] }) := Lib.hid ((PP.out.trans (if_pos ha)).trans (by rw [HPD.out]))
      have hm : d.act.pd.length < 1000000 := by rw [HPD.out]; exact HN.out
      have x1 : (w3.alloc (.cells #[] 117)).cell? ⟨w.heap.size, 1, none⟩ = some (.slice A4 d.act.pd.length c4) := cell_of_block ((heap_alloc_old _ _ (block_lt X3.out)).trans X3.out) 1
      have HL1 := Lib.hid RX.out.pd.1
      have hws := BB.out.size
      have HLT3 := Lib.hid (block_lt X3.out)
      have HLT5 := Lib.hid (block_lt X5.out)
      have HLT6 := Lib.hid (block_lt X6.out)
      have HA0 := Lib.hid ha
      clear ha hb1
      go_wp2_with (at_builtin; refine wpList_append_any rfl (.tmp 27) (.tmp 29) 57 rfl w3.heap.size 117 (.agg (.int .i64 0 :: bv noSec).toArray) 65 72 Try.underlying57 rwrInfo rfl (by decide) (by decide) (.slice (some ⟨w3.heap.size, 0, none⟩) 0 0) 0 [] rfl ?a1 A4 d.act.pd.length c4 (pv d.act.pd).flatten rfl ?a2 HL1.out (pv_one _) ?a5 ?a6 ?_)
      case a1 => exact World.ownsRow_made w3 #[] 0 (Nat.le_refl _) (Nat.zero_le _) rfl
      case a2 => exact Fg.Src.of_own (RX.out.pd.alloc _)
      case a5 => omega
      intro v9 w4 ho9 hg9 _ _
      try simp only [Nat.zero_add, List.nil_append] at ho9
      obtain ⟨A9, c9, rfl, -⟩ := own_form ho9
      have HO9 := Lib.hid ho9
      have B4 : Hid (Below w3.heap.size w3 w4) := Lib.hid (((Below.refl _ _).alloc (Nat.le_refl _) (.cells #[] 117)).grown hg9 (by simp) (by simp [Value.ownBlock]))
      have Y5 := Lib.hid ((B4.out.block _ HLT5.out).trans X5.out)
      have hs4 := B4.out.size
      have Z1 := Lib.hid (sec_toArray HS.out)
      have Z2 := Lib.hid (rwrBuilt n s HS.out)
      have Z3 : Hid ((Value.agg (wrow (n, s)).toArray).cells.size = 65) := Lib.hid (by simp [Value.cells, wrow_len (x := (n, s)) HS.out])
      have Z4 : Hid ((wrow (n, s)).length = 1 * 65) := Lib.hid (wrow_len (x := (n, s)) HS.out)
      clear ho9 hg9
      go_wp2_with (first
        | refine wpList_load_block rfl 77 (.tmp 5) rfl (w.heap.size + 1) rfl (bv s).toArray 77 (0, 0) Y5.out _ secUnder rfl Z1.out ?_
        | refine wpList_build_list rfl 117 #[(0, .tmp 32), (1, .tmp 33)] rfl [(0, .int .i64 n), (1, .agg (bv s).toArray)] rfl (wrow (n, s)).toArray Z2.out ?_
        | refine wpList_slice_one rfl 57 117 (.tmp 34) rfl 65 (.agg (.int .i64 0 :: bv noSec).toArray) (.agg (wrow (n, s)).toArray) rfl Try.underlying57 rwrInfo2 (by decide) (by decide) Z3.out ?_
        | (at_builtin; refine wpList_append_any rfl (.tmp 31) (.tmp 35) 57 rfl w3.heap.size 117 (.agg (.int .i64 0 :: bv noSec).toArray) 65 72 Try.underlying57 rwrInfo rfl (by decide) (by decide) (.slice A9 d.act.pd.length c9) d.act.pd.length (pv d.act.pd).flatten rfl (HO9.out.alloc _) (some ⟨w4.heap.size, 0, none⟩) 1 1 (wrow (n, s)) rfl (src_rows _ _ _ 1 (by decide)) Z4.out (wrow_one' _) ?b5 ?b6 ?_))
      case b5 => omega
      case b6 => simp; omega
      intro v36 w5 ho5 hg5 _ _
      obtain ⟨A5, c5, rfl, -⟩ := own_form ho5
      have HO5 := Lib.hid ho5
      have B5 : Hid (Below w3.heap.size w3 w5) := Lib.hid ((B4.out.alloc hs4 (.cells (wrow (n, s)).toArray 117)).grown hg5 (by simp; omega) (fun k hk => (HO9.out.lt k hk).1))
      have Y3 := Lib.hid ((B5.out.block _ HLT3.out).trans X3.out)
      have Y6 := Lib.hid ((B5.out.block _ HLT6.out).trans X6.out)
      have y1 : w5.cell? ⟨w.heap.size, 1, none⟩ = some (.slice A4 d.act.pd.length c4) := cell_of_block Y3.out 1
      have f1 := free_of_block Y3.out 1
      have V3 := Lib.hid (hset_at w5 w.heap.size 1 (.slice A5 (d.act.pd.length + 1) c5) Y3.out)
      have V6 : Hid ((w5.setCell ⟨w.heap.size, 1, none⟩ (.slice A5 (d.act.pd.length + 1) c5)).heap[w.heap.size + 1 + 1]? = some (.cells #[.slice none 0 0, .slice none 0 0, .bool false, .int .i64 0, .bool false] 59)) := Lib.hid ((hset_other _ _ _ (by show w.heap.size + 1 + 1 ≠ w.heap.size; omega)).trans Y6.out)
      have BW : Hid (Below w.heap.size w (w5.setCell ⟨w.heap.size, 1, none⟩ (.slice A5 (d.act.pd.length + 1) c5))) := Lib.hid ((BB.out.trans (B5.out.mono hws)).setCell (p := ⟨w.heap.size, 1, none⟩) (Nat.le_refl _) _)
      obtain ⟨C, hC⟩ : ∃ C, (rcells A3 c3 A4 c4 lr2 d.act).setIfInBounds 1 (.slice A5 (d.act.pd.length + 1) c5) = C := ⟨_, rfl⟩
      rw [hC] at V3
      have hC2 : C = rcells A3 c3 A5 c5 lr2 (d.put n s) := by
        rw [← hC, PP'.out, rcells, rcells]
        simp
      have HC2 := Lib.hid hC2
      have U1 : Hid ((Try.prog.info? 59).map (·.size) = some C.size) := Lib.hid (by rw [hC2]; exact info_rd)
      have U2 : Hid ((#[.slice none 0 0, .slice none 0 0, .bool false, .int .i64 0, .bool false] : Array Value).size = C.size) := Lib.hid (by rw [hC2]; rfl)
      have U3 : Hid (C.all (·.oneCell') = true) := Lib.hid (by rw [hC2]; simp [rcells, Value.oneCell'])
      have B6 := Lib.hid (below_setRow BW.out (by omega : w.heap.size ≤ w.heap.size + 1 + 1) C)
      have M6 := Lib.hid (setRow_at C V6.out)
      have RF : Hid (RV ((w5.setCell ⟨w.heap.size, 1, none⟩ (.slice A5 (d.act.pd.length + 1) c5)).setRow (w.heap.size + 1 + 1) C) A3 c3 A5 c5 lr2 (d.put n s)) := Lib.hid (by
        have r5 : RV w5 A3 c3 A4 c4 lr2 d.act := RX.out.below B5.out
        have ok' := Dk.put_ok r5.ok n HS.out
        have hst : (d.put n s).st = d.act.st := by rw [PP'.out]
        have hpd : (d.put n s).pd = d.act.pd ++ [(n, s)] := by rw [PP'.out]
        have hlf : (d.put n s).left = d.act.left := by rw [PP'.out]
        have e : (pv (d.act.pd ++ [(n, s)])).flatten = (pv d.act.pd).flatten ++ wrow (n, s) := by simp [pv, wrow]
        have same : ∀ k, k ≠ w.heap.size → k ≠ w.heap.size + 1 + 1 → ((w5.setCell ⟨w.heap.size, 1, none⟩ (.slice A5 (d.act.pd.length + 1) c5)).setRow (w.heap.size + 1 + 1) C).heap[k]? = w5.heap[k]? := fun k h1 h2 => (setRow_other _ _ _ _ h2).trans (hset_other _ _ _ h1)
        refine ⟨?_, ?_, ?_, ?_, ?_, r5.wf⟩
        · rw [PP'.out]
          refine ⟨r5.ok.sec, ?_, r5.ok.left⟩
          intro y hy
          rcases List.mem_append.1 hy with hy | hy
          · exact r5.ok.at_ y hy
          · rw [List.mem_singleton.1 hy]
            exact ⟨by show n < d.act.st.length; rw [HST.out]; exact hn, HS.out⟩
        · rw [hst, hpd]; exact ⟨r5.few.1, by simp; omega⟩
        · rw [hst]; exact own_same r5.st fun k hk => same k (own_ne r5.st hk Y3.out (by decide)) (own_ne r5.st hk Y6.out (by decide))
        · rw [hpd, e, List.length_append]
          exact own_same (own_base HO5.out (Nat.zero_le _)) fun k hk => same k (own_ne HO5.out hk Y3.out (by decide)) (own_ne HO5.out hk Y6.out (by decide))
        · rw [hlf]; exact r5.eq)
      have GG : Hid (∀ k, blks A3 A5 k → G k ∨ w.heap.size ≤ k) := Lib.hid (fun k hk => by
        rcases hk with ⟨a, ha, rfl⟩ | ⟨a, ha, rfl⟩
        · rcases G2.out _ (.inl ⟨a, ha, rfl⟩) with h | h
          · exact .inl h
          · right; have := B1.out.size; omega
        · right
          have := (HO5.out.lt a.block (by rw [ha]; rfl)).1
          omega)
      clear ho5 hg5 hC hC2
      go_wp2_with (first
        | refine wpList_load_block rfl 59 (.tmp 3) rfl w.heap.size rfl C 59 (0, 0) V3.out _ Try.underlying59 rfl U1.out ?_
        | refine wpList_store_block rfl 59 (.tmp 6) (.tmp 38) rfl (w.heap.size + 1 + 1) C rfl rfl #[.slice none 0 0, .slice none 0 0, .bool false, .int .i64 0, .bool false] 59 V6.out U1.out U2.out U3.out ?_)
      exact bodyPost_ret (v := .tuple #[.agg C, .int .i64 d.actE]) (res_cell_tmp Try.results50 _ _ (w.heap.size + 1 + 1) 59 _ (0, 0) _ _ rfl rfl M6.out Try.underlying59 rfl U1.out) rfl
        ⟨_, by rw [PE.out], ⟨A3, c3, A5, c5, lr2, by rw [HC2.out], RF.out, GG.out⟩, B6.out⟩
    · have hne : (d.actE == 0) = false := beq_eq_false_iff_ne.2 ha
      have PP' : Hid (d.put n s = d.act) := Lib.hid (PP.out.trans (if_neg ha))
      have Y6 := Lib.hid (setRow_at (rcells A3 c3 A4 c4 lr2 d.act) X6.out)
      have BY := Lib.hid (below_setRow BB.out (by omega : w.heap.size ≤ w.heap.size + 1 + 1) (rcells A3 c3 A4 c4 lr2 d.act))
      have RY : Hid (RV (w3.setRow (w.heap.size + 1 + 1) (rcells A3 c3 A4 c4 lr2 d.act)) A3 c3 A4 c4 lr2 d.act) := Lib.hid (RX.out.boxed X6.out (by decide) (by decide) (fun k hk hne => setRow_other _ _ _ _ hne))
      clear ha
      go_wp2_with (first
        | refine wpList_load_block rfl 59 (.tmp 3) rfl w.heap.size rfl (rcells A3 c3 A4 c4 lr2 d.act) 59 (0, 0) X3.out _ Try.underlying59 rfl W1.out ?_
        | refine wpList_store_block rfl 59 (.tmp 6) (.tmp 38) rfl (w.heap.size + 1 + 1) (rcells A3 c3 A4 c4 lr2 d.act) rfl rfl #[.slice none 0 0, .slice none 0 0, .bool false, .int .i64 0, .bool false] 59 X6.out W1.out W2.out W3.out ?_)
      exact bodyPost_ret (v := .tuple #[.agg (rcells A3 c3 A4 c4 lr2 d.act), .int .i64 d.actE]) (res_cell_tmp Try.results50 _ _ (w.heap.size + 1 + 1) 59 _ (0, 0) _ _ rfl rfl Y6.out Try.underlying59 rfl W1.out) rfl
        ⟨_, by rw [PE.out], ⟨A3, c3, A4, c4, lr2, by rw [PP'.out], by rw [PP'.out]; exact RY.out, fun k hk => by
          rcases G2.out k hk with h | h
          · exact .inl h
          · right; have := B1.out.size; omega⟩, BY.out⟩
  · have PE : Hid (d.putE i = 71) := Lib.hid (if_neg hd)
    have PP : Hid (d.put i s = d) := Lib.hid (if_neg hd)
    have hb : i < 0 ∨ (d.st.length : Int) ≤ i := by
      simp only [Dk.there, Bool.and_eq_true, decide_eq_true_eq] at hd
      omega
    obtain ⟨q, hq⟩ : ∃ q, decide (0 ≤ d.left) = q := ⟨_, rfl⟩
    have FIN : Hid (∀ w', Below w.heap.size w w' → RefE w (d.put i s) G (d.putE i) (.returned (.tuple #[.agg #[.slice A1 d.st.length c1, .slice A2 d.pd.length c2, .bool q, .int .i64 lr, .bool d.down], .int .i64 71])) w') := Lib.hid (fun w' hb =>
      ⟨_, by rw [PE.out], ⟨A1, c1, A2, c2, lr, by rw [PP.out, rcells, hq], by rw [PP.out]; exact H1.out.below hb, fun k hk => .inl (H2.out k hk)⟩, hb⟩)
    unfold rcells
    rw [hq]
    clear hq hd
    by_cases hi : i < 0
    · clear hb
      go_enter Try.func50, Try.ntmps50
      go_wp2_with fail
      exact bodyPost_ret (v := .tuple #[.agg #[.slice A1 d.st.length c1, .slice A2 d.pd.length c2, .bool q, .int .i64 lr, .bool d.down], .int .i64 71]) (by simp [results, Try.results50, go_sem]) rfl (FIN.out _ (by repeat (first | exact Below.refl _ _ | refine Below.setCell ?_ (by simp) _ | refine Below.alloc ?_ (by simp; try omega) _)))
    · have hi2 : (d.st.length : Int) ≤ i := by omega
      clear hb
      go_enter Try.func50, Try.ntmps50
      go_wp2_with fail
      exact bodyPost_ret (v := .tuple #[.agg #[.slice A1 d.st.length c1, .slice A2 d.pd.length c2, .bool q, .int .i64 lr, .bool d.down], .int .i64 71]) (by simp [results, Try.results50, go_sem]) rfl (FIN.out _ (by repeat (first | exact Below.refl _ _ | refine Below.setCell ?_ (by simp) _ | refine Below.alloc ?_ (by simp; try omega) _)))
end Go.Proofs.Ytogkibikghbghaa.Disk

namespace Go.Proofs.Ytogkibikghbghaa.Disk
open Go.RowKit Go.Proofs.Ytogkibikghbghaa.Fg

theorem take_lay {α : Type} (L new : List α) (o N : Nat) (h1 : o + new.length ≤ N) (h2 : N ≤ L.length) : (L.take o ++ (new ++ L.drop (o + new.length))).take N = (L.take N).take o ++ (new ++ (L.take N).drop (o + new.length)) := by
  have hA : (L.take o).length = o := by rw [List.length_take]; omega
  have hB : new.take (N - o) = new := List.take_of_length_le (by omega)
  rw [List.take_append, hA, List.take_take, Nat.min_eq_right (by omega), List.take_append, hB, List.take_take, Nat.min_eq_left (by omega), List.drop_take, Nat.sub_sub]
/-- One row of an owned row of rows is another. -/
theorem own_store {w : World} {base : Nat} {e : TypeId} {k n c g : Nat} {rows : List (List Value)} (h : w.ownsRow base e k (.slice (some ⟨g, 0, none⟩) n c) n rows.flatten) (hk : ∀ r ∈ rows, r.length = k) (hl : rows.length = n)
    (i : Nat) (hi : i < n) (new : List Value) (hn : new.length = k) : (w.setCells g (i * k) new).ownsRow base e k (.slice (some ⟨g, 0, none⟩) n c) n (rows.set i new).flatten ∧ w.there g (i * k) k := by
  obtain ⟨h1, h2⟩ := h
  rcases h2 with ⟨h', _⟩ | ⟨g', c', cur, h', hb, hg, hnc, hcm, hcs, htake⟩
  · simp at h'
  · simp only [Value.slice.injEq, Option.some.injEq, Addr.mk.injEq, and_true, true_and] at h'
    obtain ⟨rfl, rfl⟩ := h'
    have hcl : cur.toList.length = c * k := by simpa using hcs
    have hle : i * k + k ≤ n * k := by have := Nat.mul_le_mul_right k (show i + 1 ≤ n from hi); rw [Nat.add_mul, Nat.one_mul] at this; exact this
    have hle2 : n * k ≤ c * k := Nat.mul_le_mul_right k hnc
    refine ⟨⟨?_, .inr ⟨g, c, _, rfl, hb, heap_setCells g new (i * k) w cur hg (by rw [hn, hcs]; omega), hnc, hcm, ?_, ?_⟩⟩, fun j hj => ⟨?_, free_of_block hg _⟩⟩
    · rw [flat_len (set_len hk i hn), List.length_set, hl]
    · simp only [List.size_toArray, List.length_append, List.length_take, List.length_drop]
      omega
    · rw [← flat_set hk i (by omega) new hn, ← htake]
      have := take_lay cur.toList new (i * k) (n * k) (by omega) (by omega)
      rw [hn] at this ⊢
      exact this
    · rw [cell_of_block hg, Array.getElem?_eq_getElem (by rw [hcs]; omega)]
      rfl
theorem refInfo : (Try.prog.info? 56).map (·.size) = some 1 := by kernel_rfl

theorem blv_ne {l : List Bool} {j : Nat} (h : j < l.length) : blv l ≠ [] := by
  intro e
  have h1 : (blv l).length = 0 := by rw [e]; rfl
  rw [blv, List.length_map] at h1
  omega
def kf (l : List Bool) (k : Nat) : Bool := l.getD k false
/-- What settle does. -/
def settled (d : Dk) (l : List Bool) : Dk := { d with st := Dk.settle (kf l) 0 d.st d.pd, pd := [] }
def SetRel (w : World) (A1 : Option Addr) (c1 : Nat) (A2 : Option Addr) (c2 : Nat) (q : Bool) (lr : Int) (l : List Bool) (d : Dk) (A5 : Option Addr) (c5 : Nat) (j : Nat) (w' : World) : Prop :=
  Below w.heap.size w w' ∧ w'.ownsRow w.heap.size 77 64 (.slice A5 d.st.length c5) d.st.length (sv (Dk.settle (kf l) 0 d.st (d.pd.take j))).flatten ∧
  w'.heap[w.heap.size]? = some (.cells #[.slice A1 d.st.length c1, .slice A2 d.pd.length c2, .bool q, .int .i64 lr, .bool d.down] 59) ∧
  w'.heap[w.heap.size + 1]? = some (.cells #[.slice none 0 0, .slice none 0 0, .bool false, .int .i64 0, .bool false] 59)

set_option maxRecDepth 100000 in
set_option maxHeartbeats 2000000 in
theorem settle_any {w : World} {v : Value} {d : Dk} {G : Nat → Prop} (h : IsRef w v d G) (l : List Bool) (A : Option Addr) (c : Nat) (hs : Fg.Src w A l.length c (blv l)) :
    Calls Try.prog 52 #[v, .slice A l.length c] w (RefD w (settled d l) G) := by
  obtain ⟨A1, c1, A2, c2, lr, rfl, h1, h2⟩ := h
  have H1 := Lib.hid h1
  have H2 := Lib.hid h2
  have HS := Lib.hid hs
  have HR := Lib.hid h1.rows.2
  have hfew := h1.few
  have hm := hs.most
  have hm2 := hs.cap
  unfold maxLen at hm
  clear h1 h2 hs
  obtain ⟨q, hq⟩ : ∃ q, decide (0 ≤ d.left) = q := ⟨_, rfl⟩
  have HQ := Lib.hid hq
  unfold rcells
  rw [hq]
  clear hq
  have x0 : (((w.alloc (.cells #[.slice A1 d.st.length c1, .slice A2 d.pd.length c2, .bool q, .int .i64 lr, .bool d.down] 59)).alloc (.cells #[.slice none 0 0, .slice none 0 0, .bool false, .int .i64 0, .bool false] 59)).alloc (.cells #[] 77)).heap[w.heap.size]? = some (.cells #[.slice A1 d.st.length c1, .slice A2 d.pd.length c2, .bool q, .int .i64 lr, .bool d.down] 59) := (heap_alloc_old _ _ (by simp; omega)).trans ((heap_alloc_old _ _ (by simp)).trans (heap_alloc_at w _))
  have x1 : (((w.alloc (.cells #[.slice A1 d.st.length c1, .slice A2 d.pd.length c2, .bool q, .int .i64 lr, .bool d.down] 59)).alloc (.cells #[.slice none 0 0, .slice none 0 0, .bool false, .int .i64 0, .bool false] 59)).alloc (.cells #[] 77)).heap[w.heap.size + 1]? = some (.cells #[.slice none 0 0, .slice none 0 0, .bool false, .int .i64 0, .bool false] 59) := (heap_alloc_old _ _ (by simp)).trans (by
    have := heap_alloc_at (w.alloc (.cells #[.slice A1 d.st.length c1, .slice A2 d.pd.length c2, .bool q, .int .i64 lr, .bool d.down] 59)) (.cells #[.slice none 0 0, .slice none 0 0, .bool false, .int .i64 0, .bool false] 59)
    simpa using this)
  have X0 := Lib.hid x0
  have X1 := Lib.hid x1
  have c0 := cell_of_block x0 0
  simp only [List.getElem?_toArray, List.getElem?_cons_zero] at c0
  have HL1 := Lib.hid H1.out.st.1
  clear x0 x1
  go_enter Try.func52, Try.ntmps52
  go_wp2_with (at_builtin; refine wpList_append_any rfl (.tmp 8) (.tmp 10) 56 rfl (w.heap.size + 2) 77 (.agg (bv noSec).toArray) 64 64 Try.underlying56 secInfo' rfl (by decide) (by decide) (.slice (some ⟨w.heap.size + 2, 0, none⟩) 0 0) 0 [] rfl ?a1 A1 d.st.length c1 (sv d.st).flatten rfl ?a2 HL1.out (sv_one _) ?a5 ?a6 ?_)
  case a1 =>
    have := World.ownsRow_made (base := w.heap.size + 2) (e := 77) (size := 64) ((w.alloc (.cells #[.slice A1 d.st.length c1, .slice A2 d.pd.length c2, .bool q, .int .i64 lr, .bool d.down] 59)).alloc (.cells #[.slice none 0 0, .slice none 0 0, .bool false, .int .i64 0, .bool false] 59)) #[] 0 (by simp) (Nat.zero_le _) rfl
    simpa using this
  case a2 => exact Fg.Src.of_own (((H1.out.st.alloc _).alloc _).alloc _)
  case a5 => omega
  case a6 => simp
  intro v5 w3 ho5 hg5 _ _
  try simp only [Nat.zero_add, List.nil_append] at ho5
  obtain ⟨A5, c5, rfl, -⟩ := own_form ho5
  have start : SetRel w A1 c1 A2 c2 q lr l d A5 c5 0 w3 := by
    refine ⟨((((Below.refl _ _).alloc (Nat.le_refl _) _).alloc (by simp) _).alloc (by simp; omega) _).grown hg5 (by simp; omega) (fun k hk => ?_), own_base ho5 (by omega), (hg5.block _ (by simp; omega) ?_).trans X0.out, (hg5.block _ (by simp) ?_).trans X1.out⟩
    · simp [Value.ownBlock] at hk; omega
    · simp [Value.ownBlock]
    · simp [Value.ownBlock]
  have STT := Lib.hid start
  have hfo := (own_base ho5 (Nat.zero_le _) : w3.ownsRow 0 _ _ _ _ _)
  have y1 : w3.cell? ⟨w.heap.size, 1, none⟩ = some (.slice A2 d.pd.length c2) := cell_of_block start.2.2.1 1
  clear ho5 hg5 start hfo c0
  go_wp2_with fail
  go_loopg [15] d.pd.length (fun k n wr => ∃ j : Nat, j + k = d.pd.length ∧ n = .int .i64 j ∧ SetRel w A1 c1 A2 c2 q lr l d A5 c5 j wr)
  case atStart => exact ⟨0, Nat.zero_add _, rfl, STT.out⟩
  case round =>
    obtain ⟨j, hj, rfl, hb, ho, k0, k1⟩ := hrel
    have HB := Lib.hid hb
    have HO := Lib.hid ho
    have K0 := Lib.hid k0
    have K1 := Lib.hid k1
    clear hb ho k0 k1
    by_cases hlt : j < d.pd.length
    · obtain ⟨x, hx⟩ : ∃ x, d.pd[j]? = some x := ⟨_, List.getElem?_eq_getElem hlt⟩
      obtain ⟨p, rfl, hp1, hp2⟩ := HR.out j (wrow x) (by rw [List.getElem?_map, hx]; rfl)
      have hx64 : x.1 < d.st.length ∧ x.2.length = 64 := H1.out.ok.at_ x (List.mem_of_getElem? hx)
      have ST := Lib.hid (settle_step (kf l) hx)
      have R0 := Lib.hid (heap_alloc_at wr (.cells (.int .i64 0 :: bv noSec).toArray 117))
      have R1 := Lib.hid (setRow_at (wrow x).toArray R0.out)
      have R2 : Hid (Below wr.heap.size wr ((wr.alloc (.cells (.int .i64 0 :: bv noSec).toArray 117)).setRow wr.heap.size (wrow x).toArray)) := Lib.hid (below_setRow ((Below.refl _ _).alloc (Nat.le_refl _) _) (Nat.le_refl _) _)
      have HPR : Hid (wr.rangeAt p (j * 65) (wrow x)) := Lib.hid (fun i v hv => (HB.out.cell (p := ⟨p, j * 65 + i, none⟩) hp1).trans (hp2 i v hv))
      have Y1 : Hid ((Try.prog.info? 117).map (·.size) = some (wrow x).length) := Lib.hid (by rw [rwrSize, wrow_len hx64.2])
      have Y2 : Hid ((Try.prog.info? 117).map (·.size) = some (wrow x).toArray.size) := Lib.hid (by rw [rwrSize]; simp [wrow_len hx64.2])
      have Y3 : Hid ((.int .i64 0 :: bv noSec).toArray.size = (wrow x).toArray.size) := Lib.hid (by simp [wrow, bv, hx64.2, noSec])
      have Y4 := Lib.hid (wrow_one x)
      have HX := Lib.hid hx64
      have hws := HB.out.size
      clear hx hp2 hx64
      go_upto_region 5 with (first
        | refine wpList_load_mid rfl 117 (.tmp 18) rfl p (j * 65) rfl (wrow x) _ HPR.out Try.underlying117 rfl Y1.out ?_
        | refine wpList_alloc_as rfl 117 rfl (.int .i64 0 :: bv noSec).toArray rwrZero ?_
        | refine wpList_store_block rfl 117 (.tmp 7) (.tmp 19) rfl wr.heap.size (wrow x).toArray rfl rfl (.int .i64 0 :: bv noSec).toArray 117 R0.out Y2.out Y3.out Y4.out ?_)
      generalize (wr.alloc (.cells (.int .i64 0 :: bv noSec).toArray 117)).setRow wr.heap.size (wrow x).toArray = w9 at *
      have B9 : Hid (Below w.heap.size w w9) := Lib.hid (HB.out.trans (R2.out.mono hws))
      have hs9 := R2.out.size
      have O9 : Hid (w9.ownsRow w.heap.size 77 64 (.slice A5 d.st.length c5) d.st.length (sv (Dk.settle (kf l) 0 d.st (d.pd.take j))).flatten) := Lib.hid (own_same HO.out fun k hk => R2.out.block k (HO.out.lt k hk).2)
      have N0 := Lib.hid ((R2.out.block _ (block_lt K0.out)).trans K0.out)
      have N1 := Lib.hid ((R2.out.block _ (block_lt K1.out)).trans K1.out)
      have hsl := settle_sec' H1.out.ok (kf l) j
      have hlen : (Dk.settle (kf l) 0 d.st (d.pd.take j)).length = d.st.length := Dk.length_settle _ _ _ _
      cases hfj : kf l j with
      | false =>
        have ST' := Lib.hid (ST.out.trans (if_neg (by rw [hfj]; decide)))
        have FIN : Hid (SetRel w A1 c1 (some ⟨p, 0, none⟩) c2 q lr l d A5 c5 (j + 1) w9) := Lib.hid ⟨B9.out, by rw [ST'.out]; exact O9.out, N0.out, N1.out⟩
        by_cases hjl : j < l.length
        · have hlj : l[j] = false := by simpa [kf, hjl] using hfj
          cases A with
          | none => have := (HS.out.nil rfl).1; omega
          | some ad =>
            have hc : w9.cell? (ad.add j) = some (.bool false) := by
              have h0 := HS.out.cells ad rfl j (.bool l[j]) (by simp [blv, hjl])
              rw [hlj] at h0
              have hbk : ad.block < w.heap.size := HS.out.lt rfl (blv_ne hjl)
              have e2 : (ad.add j).block = ad.block := by unfold Addr.add; split <;> rfl
              exact (B9.out.cell (p := ad.add j) (by rw [e2]; exact hbk)).trans h0
            have hj' : (j : Int) < (l.length : Int) := by omega
            clear hfj ST hsl hlen hlj
            go_wp2_with fail
            go_roundg (gk - 1)
            case measure => omega
            case rel => exact ⟨j + 1, by omega, by go_num, FIN.out⟩
        · have hj' : ¬ (j : Int) < (l.length : Int) := by omega
          clear hfj ST hsl hlen
          go_wp2_with fail
          go_roundg (gk - 1)
          case measure => omega
          case rel => exact ⟨j + 1, by omega, by go_num, FIN.out⟩
      | true =>
        have ST' := Lib.hid (ST.out.trans (if_pos hfj))
        have hjl : j < l.length := by
          rcases Nat.lt_or_ge j l.length with h | h
          · exact h
          · rw [kf, List.getD_eq_getElem?_getD, List.getElem?_eq_none h] at hfj; cases hfj
        have hlj : l[j] = true := by simpa [kf, hjl] using hfj
        cases A5 with
        | none =>
          have h0 : d.st.length = 0 := by
            obtain ⟨A', c', hv, -, -, h3, -⟩ := own_form HO.out
            injection hv with e1 e2 e3
            subst e1
            exact (h3 rfl).1
          have := HX.out.1
          omega
        | some a5 =>
          obtain ⟨g5, rfl⟩ : ∃ g5, a5 = ⟨g5, 0, none⟩ := by
            obtain ⟨A', c', hv, -, -, -, h4⟩ := own_form HO.out
            injection hv with e1 e2 e3
            obtain ⟨g, hg, -⟩ := h4 a5 e1.symm
            exact ⟨g, hg⟩
          obtain ⟨ow, th⟩ := own_store O9.out (sv_len hsl) (by rw [sv, List.length_map, hlen]) x.1 HX.out.1 (bv x.2) (by rw [bv_length, HX.out.2])
          have hg5 := (O9.out.lt g5 rfl).1
          have hne0 : w.heap.size ≠ g5 := fun e => own_ne O9.out rfl N0.out (by decide) e.symm
          have hne1 : w.heap.size + 1 ≠ g5 := fun e => own_ne O9.out rfl N1.out (by decide) e.symm
          have FIN : Hid (SetRel w A1 c1 (some ⟨p, 0, none⟩) c2 q lr l d (some ⟨g5, 0, none⟩) c5 (j + 1) (w9.setCells g5 (x.1 * 64) (bv x.2))) := Lib.hid
            ⟨(Keep.below ((Keep.of_below B9.out).setCells g5 _ _ (fun h => by omega)) (Nat.le_refl _) (fun i h => h)), by
              rw [ST'.out, show sv ((Dk.settle (kf l) 0 d.st (d.pd.take j)).set x.1 x.2) = (sv (Dk.settle (kf l) 0 d.st (d.pd.take j))).set x.1 (bv x.2) by rw [sv, sv, List.map_set]]
              exact ow, (heap_setCells_ne g5 _ _ _ hne0).trans N0.out, (heap_setCells_ne g5 _ _ _ hne1).trans N1.out⟩
          cases A with
          | none => have := (HS.out.nil rfl).1; omega
          | some ad =>
            have hc : w9.cell? (ad.add j) = some (.bool true) := by
              have h0 := HS.out.cells ad rfl j (.bool l[j]) (by simp [blv, hjl])
              rw [hlj] at h0
              have hbk : ad.block < w.heap.size := HS.out.lt rfl (blv_ne hjl)
              have e2 : (ad.add j).block = ad.block := by unfold Addr.add; split <;> rfl
              exact (B9.out.cell (p := ad.add j) (by rw [e2]; exact hbk)).trans h0
            have hj' : (j : Int) < (l.length : Int) := by omega
            have q0 : w9.cell? ⟨wr.heap.size, 0, none⟩ = some (.int .i64 x.1) := cell_of_block R1.out 0
            have Q1 : Hid (w9.rangeAt wr.heap.size 1 (bv x.2)) := Lib.hid (fun i v hv => by rw [cell_of_block R1.out, List.getElem?_toArray, wrow, Nat.add_comm 1 i, List.getElem?_cons_succ]; exact hv)
            have hx1 : (x.1 : Int) < (d.st.length : Int) := by have := HX.out.1; omega
            have hx0 : (0 : Int) ≤ (x.1 : Int) := by omega
            have Z1 : Hid ((Try.prog.info? 77).map (·.size) = some (bv x.2).length) := Lib.hid (by rw [secSize, bv_length, HX.out.2])
            have Z2 := Lib.hid (sec_toArray HX.out.2)
            have Z4 := Lib.hid (sec_one x.2)
            have TH : Hid (w9.there g5 (x.1 * 64) (bv x.2).toArray.size) := Lib.hid (by simpa [bv, HX.out.2] using th)
            clear hfj ST hsl hlen hlj ow th
            go_wp2_with (first
              | refine wpList_load_mid rfl 77 (.tmp 33) rfl wr.heap.size 1 rfl (bv x.2) _ Q1.out secUnder rfl Z1.out ?_
              | refine wpList_store_mid rfl 77 (.tmp 35) (.tmp 34) rfl g5 (x.1 * 64) (bv x.2).toArray rfl rfl TH.out Z2.out Z4.out ?_)
            go_roundg (gk - 1)
            case measure => omega
            case rel => exact ⟨j + 1, by omega, by go_num, FIN.out⟩
    · have e : j = d.pd.length := by omega
      subst e
      rw [List.take_length] at HO
      have k0 : wr.cell? ⟨w.heap.size, 0, none⟩ = some (.slice A1 d.st.length c1) := cell_of_block K0.out 0
      have k1 : wr.cell? ⟨w.heap.size, 1, none⟩ = some (.slice A2 d.pd.length c2) := cell_of_block K0.out 1
      have f0 := free_of_block K0.out 0
      have f1 := free_of_block K0.out 1
      have M0 : Hid (((wr.setCell ⟨w.heap.size, 0, none⟩ (.slice A5 d.st.length c5)).setCell ⟨w.heap.size, 1, none⟩ (.slice none 0 0)).heap[w.heap.size]? = some (.cells #[.slice A5 d.st.length c5, .slice none 0 0, .bool q, .int .i64 lr, .bool d.down] 59)) := Lib.hid (hset_at _ w.heap.size 1 _ (hset_at wr w.heap.size 0 _ K0.out))
      have M1 : Hid (((wr.setCell ⟨w.heap.size, 0, none⟩ (.slice A5 d.st.length c5)).setCell ⟨w.heap.size, 1, none⟩ (.slice none 0 0)).heap[w.heap.size + 1]? = some (.cells #[.slice none 0 0, .slice none 0 0, .bool false, .int .i64 0, .bool false] 59)) := Lib.hid ((hset_other _ _ _ (by show w.heap.size + 1 ≠ w.heap.size; omega)).trans ((hset_other _ _ _ (by show w.heap.size + 1 ≠ w.heap.size; omega)).trans K1.out))
      have MB : Hid (Below w.heap.size w ((wr.setCell ⟨w.heap.size, 0, none⟩ (.slice A5 d.st.length c5)).setCell ⟨w.heap.size, 1, none⟩ (.slice none 0 0))) := Lib.hid ((HB.out.setCell (p := ⟨w.heap.size, 0, none⟩) (Nat.le_refl _) _).setCell (p := ⟨w.heap.size, 1, none⟩) (Nat.le_refl _) _)
      have U1 : Hid ((Try.prog.info? 59).map (·.size) = some (#[.slice A5 d.st.length c5, .slice none 0 0, .bool q, .int .i64 lr, .bool d.down] : Array Value).size) := Lib.hid info_rd
      have U3 : Hid ((#[.slice A5 d.st.length c5, .slice none 0 0, .bool q, .int .i64 lr, .bool d.down] : Array Value).all (·.oneCell') = true) := Lib.hid (by simp [Value.oneCell'])
      have B6 := Lib.hid (below_setRow MB.out (by omega : w.heap.size ≤ w.heap.size + 1) #[.slice A5 d.st.length c5, .slice none 0 0, .bool q, .int .i64 lr, .bool d.down])
      have M6 := Lib.hid (setRow_at #[.slice A5 d.st.length c5, .slice none 0 0, .bool q, .int .i64 lr, .bool d.down] M1.out)
      have hl := Dk.length_settle (kf l) d.pd 0 d.st
      have O6 : Hid ((((wr.setCell ⟨w.heap.size, 0, none⟩ (.slice A5 d.st.length c5)).setCell ⟨w.heap.size, 1, none⟩ (.slice none 0 0)).setRow (w.heap.size + 1) #[.slice A5 d.st.length c5, .slice none 0 0, .bool q, .int .i64 lr, .bool d.down]).ownsRow w.heap.size 77 64 (.slice A5 d.st.length c5) d.st.length (sv (Dk.settle (kf l) 0 d.st d.pd)).flatten) :=
        Lib.hid (own_same HO.out fun k hk => (setRow_other _ _ _ _ (own_ne HO.out hk K1.out (by decide))).trans ((hset_other _ _ _ (own_ne HO.out hk K0.out (by decide))).trans (hset_other _ _ _ (own_ne HO.out hk K0.out (by decide)))))
      have RF : Hid (RV (((wr.setCell ⟨w.heap.size, 0, none⟩ (.slice A5 d.st.length c5)).setCell ⟨w.heap.size, 1, none⟩ (.slice none 0 0)).setRow (w.heap.size + 1) #[.slice A5 d.st.length c5, .slice none 0 0, .bool q, .int .i64 lr, .bool d.down]) A5 c5 none 0 lr (settled d l)) := Lib.hid
        ⟨⟨Dk.settle_sec _ _ _ _ H1.out.ok.sec (fun x hx => (H1.out.ok.at_ x hx).2), (fun x hx => by cases hx), H1.out.ok.left⟩, ⟨by show (Dk.settle (kf l) 0 d.st d.pd).length ≤ 512; rw [hl]; exact hfew.1, by show ([] : List (Nat × List Int)).length ≤ _; simp⟩,
          by show World.ownsRow _ 0 _ 64 (.slice A5 (Dk.settle (kf l) 0 d.st d.pd).length c5) (Dk.settle (kf l) 0 d.st d.pd).length (sv (Dk.settle (kf l) 0 d.st d.pd)).flatten; rw [hl]; exact own_base O6.out (Nat.zero_le _),
          World.ownsRow_nil _ _ _ _, H1.out.eq, H1.out.wf⟩
      have VE : Hid (#[.slice A5 d.st.length c5, .slice none 0 0, .bool q, .int .i64 lr, .bool d.down] = rcells A5 c5 none 0 lr (settled d l)) := Lib.hid (by
        show _ = (#[.slice A5 (Dk.settle (kf l) 0 d.st d.pd).length c5, .slice none 0 0, .bool (decide (0 ≤ d.left)), .int .i64 lr, .bool d.down] : Array Value)
        rw [hl, HQ.out])
      clear hl
      go_wp2_with (first
        | refine wpList_load_block rfl 59 (.tmp 2) rfl w.heap.size rfl #[.slice A5 d.st.length c5, .slice none 0 0, .bool q, .int .i64 lr, .bool d.down] 59 (0, 0) M0.out _ Try.underlying59 rfl U1.out ?_
        | refine wpList_store_block rfl 59 (.tmp 4) (.tmp 40) rfl (w.heap.size + 1) #[.slice A5 d.st.length c5, .slice none 0 0, .bool q, .int .i64 lr, .bool d.down] rfl rfl #[.slice none 0 0, .slice none 0 0, .bool false, .int .i64 0, .bool false] 59 M1.out U1.out rfl U3.out ?_)
      exact bodyPost_ret (v := .agg #[.slice A5 d.st.length c5, .slice none 0 0, .bool q, .int .i64 lr, .bool d.down]) (res_cell Try.results52 _ _ (w.heap.size + 1) 59 _ (0, 0) _ rfl M6.out Try.underlying59 rfl U1.out) rfl
        ⟨_, rfl, ⟨A5, c5, none, 0, lr, by rw [VE.out], RF.out, fun k hk => by
          rcases hk with ⟨a, ha, rfl⟩ | ⟨a, ha, rfl⟩
          · right; exact (O6.out.lt a.block (by rw [ha]; rfl)).1
          · cases ha⟩, B6.out⟩
end Go.Proofs.Ytogkibikghbghaa.Disk

namespace Go.Proofs.Ytogkibikghbghaa.Disk
open Go.RowKit Go.Proofs.Ytogkibikghbghaa.Fg

theorem settle_congr {f f' : Nat → Bool} : ∀ (l : List (Nat × List Int)) (k : Nat) (st : List (List Int)), (∀ j, j < l.length → f (k + j) = f' (k + j)) → Dk.settle f k st l = Dk.settle f' k st l
  | [], _, _, _ => rfl
  | x :: r, k, st, h => by
    have h0 : f k = f' k := by have := h 0 (by simp); simpa using this
    rw [Dk.settle, Dk.settle, h0]
    exact settle_congr r (k + 1) _ (fun j hj => by have := h (j + 1) (by simp; omega); rw [show k + 1 + j = k + (j + 1) by omega]; exact this)
theorem settled_all (d : Dk) : Dk.settle (kf (List.replicate d.pd.length true)) 0 d.st d.pd = Dk.settle (fun _ => true) 0 d.st d.pd :=
  settle_congr _ _ _ (fun j hj => by simp [kf, hj])
theorem info_bool : (Try.prog.info? 4).map (fun i => (i.zero, i.size, i.bytes)) = some (some (.bool false), 1, 1) := by kernel_rfl
theorem IsRef.form {w : World} {v : Value} {d : Dk} {G : Nat → Prop} (h : IsRef w v d G) : ∃ C : Array Value, v = .agg C ∧ C.size = 5 ∧ C.all (·.oneCell') = true := by
  obtain ⟨A1, c1, A2, c2, lr, rfl, -⟩ := h
  exact ⟨_, rfl, rfl, by simp [rcells, Value.oneCell']⟩
/-- A disk's value stays where a block of disks turns. -/
theorem IsRef.boxed {w w' : World} {v : Value} {d : Dk} {G : Nat → Prop} (h : IsRef w v d G) {b : Nat} {cs : Array Value} {t : TypeId} {fr : Nat × Nat} (hb : w.heap[b]? = some (.cells cs t fr)) (h1 : t ≠ 77) (h2 : t ≠ 117)
    (hw : ∀ k, k < w.heap.size → k ≠ b → w'.heap[k]? = w.heap[k]?) : IsRef w' v d G := by
  obtain ⟨A1, c1, A2, c2, lr, e, r, g⟩ := h
  exact ⟨A1, c1, A2, c2, lr, e, r.boxed hb h1 h2 hw, g⟩
theorem IsRef.below {w w' : World} {v : Value} {d : Dk} {G : Nat → Prop} (h : IsRef w v d G) (hb : Below w.heap.size w w') : IsRef w' v d G := h.same fun k _ hk => hb.block k hk

def AllRel (w w2 : World) (C : Array Value) (j : Nat) (v : Value) (w' : World) : Prop :=
  w'.ownsRow w2.heap.size 4 1 v j (blv (List.replicate j true)) ∧ Below w2.heap.size w2 w'
set_option maxRecDepth 100000 in
set_option maxHeartbeats 2000000 in
theorem refsync_any {w : World} {v : Value} {d : Dk} {G : Nat → Prop} (h : IsRef w v d G) : Calls Try.prog 25 #[v] w (RefE w d.sync G d.actE) := by
  have H0 := Lib.hid h
  obtain ⟨C0, rfl, hc1, hc2⟩ := h.form
  have AC := Lib.hid (fun w1 hb => refact_any (h.below hb) : ∀ w1, Below w.heap.size w w1 → _)
  have hfew : d.pd.length ≤ 1000000 := by obtain ⟨_, _, _, _, _, _, r, _⟩ := h; exact r.few.2
  have B1 : Hid (Below w.heap.size w ((w.alloc (.cells C0 59)).alloc (.cells #[.slice none 0 0, .slice none 0 0, .bool false, .int .i64 0, .bool false] 59))) := Lib.hid (((Below.refl _ _).alloc (Nat.le_refl _) _).alloc (by simp) _)
  have K0 : Hid (((w.alloc (.cells C0 59)).alloc (.cells #[.slice none 0 0, .slice none 0 0, .bool false, .int .i64 0, .bool false] 59)).heap[w.heap.size]? = some (.cells C0 59)) := Lib.hid ((heap_alloc_old _ _ (by simp)).trans (heap_alloc_at w _))
  have K1 : Hid (((w.alloc (.cells C0 59)).alloc (.cells #[.slice none 0 0, .slice none 0 0, .bool false, .int .i64 0, .bool false] 59)).heap[w.heap.size + 1]? = some (.cells #[.slice none 0 0, .slice none 0 0, .bool false, .int .i64 0, .bool false] 59)) := Lib.hid (by
    have := heap_alloc_at (w.alloc (.cells C0 59)) (.cells #[.slice none 0 0, .slice none 0 0, .bool false, .int .i64 0, .bool false] 59)
    simpa using this)
  have U0 : Hid ((Try.prog.info? 59).map (·.size) = some C0.size) := Lib.hid (by rw [hc1]; exact info_rd)
  have HC1 := Lib.hid hc1
  clear h hc1 hc2
  go_enter Try.func25, Try.ntmps25
  go_upto_region 1 with fail
  generalize (w.alloc (.cells C0 59)).alloc (.cells #[.slice none 0 0, .slice none 0 0, .bool false, .int .i64 0, .bool false] 59) = w1 at *
  go_wp2_with (refine wpList_load_block rfl 59 (.tmp 1) rfl w.heap.size rfl C0 59 (0, 0) K0.out _ Try.underlying59 rfl U0.out ?_)
  refine (AC.out w1 B1.out).mono ?_
  rintro e w2 ⟨v2, rfl, h2, hb2⟩
  obtain ⟨C, rfl, hc1, hc2⟩ := h2.form
  have H2 := Lib.hid h2
  have B2 : Hid (Below w.heap.size w w2) := Lib.hid (B1.out.trans (hb2.mono B1.out.size))
  have L0 := Lib.hid ((hb2.block _ (block_lt K0.out)).trans K0.out)
  have L1 := Lib.hid ((hb2.block _ (block_lt K1.out)).trans K1.out)
  have hs1 := B1.out.size
  have U1 : Hid ((Try.prog.info? 59).map (·.size) = some C.size) := Lib.hid (by rw [hc1]; exact info_rd)
  have U2 : Hid (C0.size = C.size) := Lib.hid (by rw [hc1]; exact HC1.out)
  have U3 := Lib.hid hc2
  have U4 : Hid ((#[.slice none 0 0, .slice none 0 0, .bool false, .int .i64 0, .bool false] : Array Value).size = C.size) := Lib.hid (by rw [hc1]; rfl)
  have X0 := Lib.hid (setRow_at C L0.out)
  have X1 : Hid ((w2.setRow w.heap.size C).heap[w.heap.size + 1]? = some (.cells #[.slice none 0 0, .slice none 0 0, .bool false, .int .i64 0, .bool false] 59)) := Lib.hid ((setRow_other _ _ _ _ (by omega)).trans L1.out)
  have B3 := Lib.hid (below_setRow B2.out (Nat.le_refl _) C)
  have H3 : Hid (IsRef (w2.setRow w.heap.size C) (.agg C) d.act (fun k => G k ∨ w.heap.size ≤ k)) := Lib.hid ((h2.boxed L0.out (by decide) (by decide) (fun k hk hne => setRow_other _ _ _ _ hne)).mono (fun k _ hk => hk.imp id (fun h => by omega)))
  clear h2 hb2 hc1 hc2
  go_upto_region 2 with (refine wpList_store_block rfl 59 (.tmp 1) (.tmp 9) rfl w.heap.size C rfl rfl C0 59 L0.out U1.out U2.out U3.out ?_)
  generalize w2.setRow w.heap.size C = w3 at *
  by_cases ha : d.actE = 0
  · have hae : (d.actE != 0) = false := by simp [ha]
    have SY : Hid (d.sync = { d.act with st := Dk.settle (fun _ => true) 0 d.act.st d.act.pd, pd := [] }) := Lib.hid ((if_pos ha).trans (by rw [Dk.act_st, Dk.act_pd]))
    have EA := Lib.hid ha
    have PD : Hid (d.act.pd = d.pd) := Lib.hid (Dk.act_pd d)
    clear ha
    have y1 : ∃ A2 c2, w3.cell? ⟨w.heap.size, 1, none⟩ = some (.slice A2 d.pd.length c2) := by
      obtain ⟨A1, c1, A2, c2, lr, e, -⟩ := H3.out
      injection e with e
      refine ⟨A2, c2, ?_⟩
      rw [cell_of_block X0.out, e, rcells, PD.out]
      rfl
    obtain ⟨A2, c2, y1⟩ := y1
    have y2 : (w3.alloc (.cells #[] 4)).cell? ⟨w.heap.size, 1, none⟩ = some (.slice A2 d.pd.length c2) := (cell_of_block ((heap_alloc_old _ _ (block_lt X0.out)).trans X0.out) 1).trans ((cell_of_block X0.out 1).symm.trans y1)
    have hs3 := B3.out.size
    have ST : Hid (AllRel w w3 C 0 (.slice (some ⟨w3.heap.size, 0, none⟩) 0 0) (w3.alloc (.cells #[] 4))) := Lib.hid ⟨World.ownsRow_made w3 #[] 0 (Nat.le_refl _) (Nat.zero_le _) rfl, (Below.refl _ _).alloc (Nat.le_refl _) _⟩
    clear y1
    go_wp2_with fail
    go_loopg [5, 19] d.pd.length (fun k v n wr => ∃ j : Nat, j + k = d.pd.length ∧ n = .int .i64 j ∧ AllRel w w3 C j v wr)
    case atStart => exact ⟨0, Nat.zero_add _, rfl, ST.out⟩
    case round =>
      obtain ⟨j, hj, rfl, ho, hb⟩ := hrel
      obtain ⟨A9, c9, rfl, -⟩ := own_form ho
      have HO := Lib.hid ho
      have HB := Lib.hid hb
      have hs4 := hb.size
      clear ho hb y2
      by_cases hlt : j < d.pd.length
      · go_wp2_with (at_builtin; refine wpList_append_any rfl (.tmp 21) (.tmp 22) 43 rfl w3.heap.size 4 (.bool false) 1 1 Try.underlying43 info_bool rfl (by decide) (by decide) (.slice A9 j c9) j (blv (List.replicate j true)) rfl (HO.out.alloc _) (some ⟨wr.heap.size, 0, none⟩) 1 1 [.bool true] rfl (src_cell _ _ _) rfl ?a5 ?a6 ?a7 ?_)
        case a5 => simp [Value.oneCell']
        case a6 => omega
        case a7 => simp; omega
        intro v5 w5 ho5 hg5 _ hat5
        have NX : Hid (AllRel w w3 C (j + 1) v5 w5) := Lib.hid ⟨by
          rw [List.replicate_succ', blv, List.map_append]; exact ho5, (HB.out.alloc hs4 (.cells #[.bool true] 4)).grown hg5 (by simp; omega) (fun k hk => (HO.out.lt k hk).1)⟩
        clear ho5 hg5 hat5
        go_wp2_with fail
        go_roundg (gk - 1)
        case measure => omega
        case rel => exact ⟨j + 1, by omega, by go_num, NX.out⟩
      · have e : j = d.pd.length := by omega
        subst e
        have HO2 := HO
        have Y0 := Lib.hid ((HB.out.block _ (block_lt X0.out)).trans X0.out)
        have Y1 := Lib.hid ((HB.out.block _ (block_lt X1.out)).trans X1.out)
        have BR : Hid (Below w.heap.size w wr) := Lib.hid (B3.out.trans (HB.out.mono hs3))
        have hl : (List.replicate d.pd.length true).length = d.pd.length := List.length_replicate
        have SE := Lib.hid (settle_any (H3.out.below HB.out) (List.replicate d.pd.length true) A9 c9 (by rw [hl]; exact Fg.Src.of_own HO.out))
        rw [hl] at SE
        clear hl
        go_wp2_with (refine wpList_load_block rfl 59 (.tmp 1) rfl w.heap.size rfl C 59 (0, 0) Y0.out _ Try.underlying59 rfl U1.out ?_)
        refine SE.out.mono ?_
        rintro e w5 ⟨v5, rfl, h5, hb5⟩
        obtain ⟨C5, rfl, hc1, hc2⟩ := h5.form
        have B5 : Hid (Below w.heap.size w w5) := Lib.hid (BR.out.trans (hb5.mono BR.out.size))
        have L1' := Lib.hid ((hb5.block _ (block_lt Y1.out)).trans Y1.out)
        have V1 : Hid ((Try.prog.info? 59).map (·.size) = some C5.size) := Lib.hid (by rw [hc1]; exact info_rd)
        have V4 : Hid ((#[.slice none 0 0, .slice none 0 0, .bool false, .int .i64 0, .bool false] : Array Value).size = C5.size) := Lib.hid (by rw [hc1]; rfl)
        have V3 := Lib.hid hc2
        have M6 := Lib.hid (setRow_at C5 L1'.out)
        have B6 := Lib.hid (below_setRow B5.out (by omega : w.heap.size ≤ w.heap.size + 1) C5)
        have hws := BR.out.size
        have SE2 : Hid (d.sync = settled d.act (List.replicate d.pd.length true)) := Lib.hid (by rw [SY.out, settled, ← settled_all, PD.out])
        have H6 : Hid (IsRef (w5.setRow (w.heap.size + 1) C5) (.agg C5) d.sync (fun k => G k ∨ w.heap.size ≤ k)) := Lib.hid (by
          rw [SE2.out]
          exact (h5.boxed L1'.out (by decide) (by decide) (fun k hk hne => setRow_other _ _ _ _ hne)).mono (fun k _ hk => hk.elim id (fun h => .inr (by omega))))
        clear h5 hb5 hc1 hc2
        go_wp2_with (refine wpList_store_block rfl 59 (.tmp 2) (.tmp 27) rfl (w.heap.size + 1) C5 rfl rfl #[.slice none 0 0, .slice none 0 0, .bool false, .int .i64 0, .bool false] 59 L1'.out V1.out V4.out V3.out ?_)
        exact bodyPost_ret (v := .tuple #[.agg C5, .int .i64 0]) (res_cell_tmp Try.results25 _ _ (w.heap.size + 1) 59 _ (0, 0) _ _ rfl rfl M6.out Try.underlying59 rfl V1.out) rfl
          ⟨_, by rw [EA.out], H6.out, B6.out⟩
  · have hae : (d.actE != 0) = true := by simp [ha]
    have SY : Hid (d.sync = d.act) := Lib.hid (if_neg ha)
    have M6 := Lib.hid (setRow_at C X1.out)
    have B6 := Lib.hid (below_setRow B3.out (by omega : w.heap.size ≤ w.heap.size + 1) C)
    have H6 : Hid (IsRef (w3.setRow (w.heap.size + 1) C) (.agg C) d.act (fun k => G k ∨ w.heap.size ≤ k)) := Lib.hid (H3.out.boxed X1.out (by decide) (by decide) (fun k hk hne => setRow_other _ _ _ _ hne))
    clear ha
    go_wp2_with (first
      | refine wpList_load_block rfl 59 (.tmp 1) rfl w.heap.size rfl C 59 (0, 0) X0.out _ Try.underlying59 rfl U1.out ?_
      | refine wpList_store_block rfl 59 (.tmp 2) (.tmp 13) rfl (w.heap.size + 1) C rfl rfl #[.slice none 0 0, .slice none 0 0, .bool false, .int .i64 0, .bool false] 59 X1.out U1.out U4.out U3.out ?_)
    exact bodyPost_ret (v := .tuple #[.agg C, .int .i64 d.actE]) (res_cell_tmp Try.results25 _ _ (w.heap.size + 1) 59 _ (0, 0) _ _ rfl rfl M6.out Try.underlying59 rfl U1.out) rfl
      ⟨_, rfl, by rw [SY.out]; exact H6.out, B6.out⟩
theorem refcrash_any {w : World} {v : Value} {d : Dk} {G : Nat → Prop} (h : IsRef w v d G) (l : List Bool) (A : Option Addr) (c : Nat) (hs : Fg.Src w A l.length c (blv l)) :
    Calls Try.prog 28 #[v, .slice A l.length c] w (RefD w (d.crash l) G) := by
  obtain ⟨C0, rfl, hc1, hc2⟩ := h.form
  have AC := Lib.hid (fun w1 hb => settle_any (h.below hb) l A c (hs.same fun ad had hne => hb.block _ (hs.lt had hne)) : ∀ w1, Below w.heap.size w w1 → _)
  have B1 : Hid (Below w.heap.size w ((w.alloc (.cells C0 59)).alloc (.cells #[.slice none 0 0, .slice none 0 0, .bool false, .int .i64 0, .bool false] 59))) := Lib.hid (((Below.refl _ _).alloc (Nat.le_refl _) _).alloc (by simp) _)
  have K0 : Hid (((w.alloc (.cells C0 59)).alloc (.cells #[.slice none 0 0, .slice none 0 0, .bool false, .int .i64 0, .bool false] 59)).heap[w.heap.size]? = some (.cells C0 59)) := Lib.hid ((heap_alloc_old _ _ (by simp)).trans (heap_alloc_at w _))
  have K1 : Hid (((w.alloc (.cells C0 59)).alloc (.cells #[.slice none 0 0, .slice none 0 0, .bool false, .int .i64 0, .bool false] 59)).heap[w.heap.size + 1]? = some (.cells #[.slice none 0 0, .slice none 0 0, .bool false, .int .i64 0, .bool false] 59)) := Lib.hid (by
    have := heap_alloc_at (w.alloc (.cells C0 59)) (.cells #[.slice none 0 0, .slice none 0 0, .bool false, .int .i64 0, .bool false] 59)
    simpa using this)
  have U0 : Hid ((Try.prog.info? 59).map (·.size) = some C0.size) := Lib.hid (by rw [hc1]; exact info_rd)
  have HC1 := Lib.hid hc1
  clear h hc1 hc2 hs
  go_enter Try.func28, Try.ntmps28
  go_upto_region 1 with fail
  generalize (w.alloc (.cells C0 59)).alloc (.cells #[.slice none 0 0, .slice none 0 0, .bool false, .int .i64 0, .bool false] 59) = w1 at *
  go_wp2_with (refine wpList_load_block rfl 59 (.tmp 2) rfl w.heap.size rfl C0 59 (0, 0) K0.out _ Try.underlying59 rfl U0.out ?_)
  refine (AC.out w1 B1.out).mono ?_
  rintro e w2 ⟨v2, rfl, h2, hb2⟩
  obtain ⟨A3, c3, A4, c4, lr3, rfl, r3, g3⟩ := h2
  have R3 := Lib.hid r3
  have B2 : Hid (Below w.heap.size w w2) := Lib.hid (B1.out.trans (hb2.mono B1.out.size))
  have L0 := Lib.hid ((hb2.block _ (block_lt K0.out)).trans K0.out)
  have L1 := Lib.hid ((hb2.block _ (block_lt K1.out)).trans K1.out)
  have hs1 := B1.out.size
  obtain ⟨n, hn⟩ : ∃ n, (settled d l).st.length = n := ⟨_, rfl⟩
  obtain ⟨C, hC⟩ : ∃ C, rcells A3 c3 A4 c4 lr3 (settled d l) = C := ⟨_, rfl⟩
  have hC0 : C[0]? = some (.slice A3 n c3) := by rw [← hC, ← hn]; rfl
  have hc1 : C.size = 5 := by rw [← hC]; rfl
  have U1 : Hid ((Try.prog.info? 59).map (·.size) = some C.size) := Lib.hid (by rw [hc1]; exact info_rd)
  have U2 : Hid (C0.size = C.size) := Lib.hid (by rw [hc1]; exact HC1.out)
  have U3 : Hid (C.all (·.oneCell') = true) := Lib.hid (by rw [← hC]; simp [rcells, Value.oneCell'])
  have X0 := Lib.hid (setRow_at C L0.out)
  have X1 : Hid ((w2.setRow w.heap.size C).heap[w.heap.size + 1]? = some (.cells #[.slice none 0 0, .slice none 0 0, .bool false, .int .i64 0, .bool false] 59)) := Lib.hid ((setRow_other _ _ _ _ (by omega)).trans L1.out)
  have B3 := Lib.hid (below_setRow B2.out (Nat.le_refl _) C)
  have c0 : (w2.setRow w.heap.size C).cell? ⟨w.heap.size, 0, none⟩ = some (.slice A3 n c3) := (cell_of_block X0.out 0).trans hC0
  have O3 : Hid ((w2.setRow w.heap.size C).ownsRow 0 77 64 (.slice A3 n c3) n (sv (settled d l).st).flatten) := Lib.hid (by
    have := (r3.boxed (w' := w2.setRow w.heap.size C) L0.out (by decide) (by decide) (fun k hk hne => setRow_other _ _ _ _ hne)).st
    rw [hn] at this
    exact this)
  have G3 := Lib.hid g3
  have OK3 := Lib.hid r3.ok
  have FW := Lib.hid r3.few
  have HN := Lib.hid hn
  rw [hC]
  clear r3 g3 hb2 hc1 hC hC0 hn
  go_upto_region 2 with (refine wpList_store_block rfl 59 (.tmp 2) (.tmp 7) rfl w.heap.size C rfl rfl C0 59 L0.out U1.out U2.out U3.out ?_)
  generalize w2.setRow w.heap.size C = w3 at *
  have V1 : Hid ((Try.prog.info? 59).map (·.size) = some (#[.slice A3 n c3, .slice none 0 0, .bool false, .int .i64 0, .bool false] : Array Value).size) := Lib.hid info_rd
  have V3 : Hid ((#[.slice A3 n c3, .slice none 0 0, .bool false, .int .i64 0, .bool false] : Array Value).all (·.oneCell') = true) := Lib.hid (by simp [Value.oneCell'])
  have M6 := Lib.hid (setRow_at #[.slice A3 n c3, .slice none 0 0, .bool false, .int .i64 0, .bool false] X1.out)
  have B6 := Lib.hid (below_setRow B3.out (by omega : w.heap.size ≤ w.heap.size + 1) #[.slice A3 n c3, .slice none 0 0, .bool false, .int .i64 0, .bool false])
  go_wp2_with (refine wpList_store_block rfl 59 (.tmp 4) (.tmp 10) rfl (w.heap.size + 1) #[.slice A3 n c3, .slice none 0 0, .bool false, .int .i64 0, .bool false] rfl rfl #[.slice none 0 0, .slice none 0 0, .bool false, .int .i64 0, .bool false] 59 X1.out V1.out rfl V3.out ?_)
  refine bodyPost_ret (v := .agg #[.slice A3 n c3, .slice none 0 0, .bool false, .int .i64 0, .bool false]) (res_cell Try.results28 _ _ (w.heap.size + 1) 59 _ (0, 0) _ rfl M6.out Try.underlying59 rfl V1.out) rfl ⟨_, rfl, ⟨A3, c3, none, 0, 0, ?_, ⟨?_, ?_, ?_, World.ownsRow_nil _ _ _ _, ?_, by omega⟩, ?_⟩, B6.out⟩
  · have e : (d.crash l).st.length = n := HN.out
    rw [rcells, e]
    rfl
  · exact ⟨OK3.out.sec, (fun x hx => by cases hx), by simp [Dk.crash]⟩
  · exact ⟨FW.out.1, by show ([] : List (Nat × List Int)).length ≤ _; simp⟩
  · have e : (d.crash l).st.length = n := HN.out
    rw [e]
    exact own_same O3.out fun k hk => setRow_other _ _ _ _ (own_ne O3.out hk X1.out (by decide))
  · intro h
    have h' : (0 : Int) ≤ -1 := h
    omega
  · rintro k (⟨a, ha, rfl⟩ | ⟨a, ha, rfl⟩)
    · rcases G3.out _ (.inl ⟨a, ha, rfl⟩) with h | h
      · exact .inl h
      · right; omega
    · cases ha
end Go.Proofs.Ytogkibikghbghaa.Disk

namespace Go.Proofs.Ytogkibikghbghaa.Disk
open Go.RowKit Go.Proofs.Ytogkibikghbghaa.Fg

theorem secInfo2 : (Try.prog.info? 77).map (fun i => (i.zero, i.size)) = some (some (.agg (bv noSec).toArray), 64) := by kernel_rfl
def RnRel (w : World) (j : Nat) (w' : World) : Prop := Below w.heap.size w w' ∧ w'.heap[w.heap.size]? = some (.cells #[.slice none 0 0, .slice none 0 0, .bool false, .int .i64 0, .bool false] 59) ∧
  ∃ A c, w'.heap[w.heap.size + 1]? = some (.cells #[.slice A j c, .slice none 0 0, .bool false, .int .i64 0, .bool false] 59) ∧ w'.ownsRow w.heap.size 77 64 (.slice A j c) j (sv (List.replicate j noSec)).flatten
set_option maxRecDepth 100000 in
set_option maxHeartbeats 1000000 in
theorem refnew_any (sectors : Int) (n : Nat) (w : World) (hc : (n : Int) = if sectors < 0 then 0 else if 512 < sectors then 512 else sectors) (G : Nat → Prop) :
    Calls Try.prog 22 #[.int .i64 sectors] w (RefD w (Dk.new n) G) := by
  have hn : n ≤ 512 := by split at hc <;> (try split at hc) <;> omega
  have hlt : ∀ j : Nat, j < n → (j : Int) < sectors ∧ (j : Int) < 512 := fun j hj => by split at hc <;> (try split at hc) <;> omega
  have hend : ¬ (n : Int) < sectors ∨ ((n : Int) < sectors ∧ ¬ (n : Int) < 512) := by split at hc <;> (try split at hc) <;> omega
  have HLT := Lib.hid hlt
  have HEND := Lib.hid hend
  have start : RnRel w 0 ((w.alloc (.cells #[.slice none 0 0, .slice none 0 0, .bool false, .int .i64 0, .bool false] 59)).alloc (.cells #[.slice none 0 0, .slice none 0 0, .bool false, .int .i64 0, .bool false] 59)) := ⟨((Below.refl _ _).alloc (Nat.le_refl _) _).alloc (by simp) _, (heap_alloc_old _ _ (by simp)).trans (heap_alloc_at w _), none, 0, by
    have := heap_alloc_at (w.alloc (.cells #[.slice none 0 0, .slice none 0 0, .bool false, .int .i64 0, .bool false] 59)) (.cells #[.slice none 0 0, .slice none 0 0, .bool false, .int .i64 0, .bool false] 59)
    simpa using this, World.ownsRow_nil _ _ _ _⟩
  have ST := Lib.hid start
  clear hc hlt hend start
  go_enter Try.func22, Try.ntmps22
  go_wp2_with fail
  generalize ((w.alloc (.cells #[.slice none 0 0, .slice none 0 0, .bool false, .int .i64 0, .bool false] 59)).alloc (.cells #[.slice none 0 0, .slice none 0 0, .bool false, .int .i64 0, .bool false] 59)) = w1 at *
  go_loopg [4] n (fun k v wr => ∃ j : Nat, j + k = n ∧ v = .int .i64 j ∧ RnRel w j wr)
  case atStart => exact ⟨0, Nat.zero_add _, rfl, ST.out⟩
  case round =>
    obtain ⟨j, hj, rfl, hb, k0, A, c, k1, ho⟩ := hrel
    have HB := Lib.hid hb
    have K0 := Lib.hid k0
    have K1 := Lib.hid k1
    have HO := Lib.hid ho
    have hws := hb.size
    have c1 : wr.cell? ⟨w.heap.size + 1, 0, none⟩ = some (.slice A j c) := cell_of_block k1 0
    clear hb k0 k1 ho
    by_cases hjn : j < n
    · obtain ⟨l1, l2⟩ := HLT.out j hjn
      have hlt1 := block_lt K1.out
      have BS : Hid ((Value.agg (bv noSec).toArray).cells.size = 64) := Lib.hid (by simp [Value.cells, bv, noSec])
      have BL : Hid ((bv noSec).length = 1 * 64) := Lib.hid (by simp [bv, noSec])
      go_wp2_with (first
        | refine wpList_build_as rfl 77 #[] rfl (bv noSec).toArray secBuilt0 ?_
        | refine wpList_slice_one rfl 56 77 (.tmp 17) rfl 64 (.agg (bv noSec).toArray) (.agg (bv noSec).toArray) rfl Try.underlying56 secInfo2 (by decide) (by decide) BS.out ?_
        | (at_builtin; refine wpList_append_any rfl (.tmp 16) (.tmp 18) 56 rfl w.heap.size 77 (.agg (bv noSec).toArray) 64 64 Try.underlying56 secInfo' rfl (by decide) (by decide) (.slice A j c) j (sv (List.replicate j noSec)).flatten rfl (HO.out.alloc _) (some ⟨wr.heap.size, 0, none⟩) 1 1 (bv noSec) rfl (src_rows _ _ _ 1 (by decide)) BL.out (bv_one _) ?b5 ?b6 ?_))
      case b5 => omega
      case b6 => simp; omega
      intro v5 w5 ho5 hg5 _ hat5
      obtain ⟨A5, c5, rfl, -⟩ := own_form ho5
      have hno : ∀ k, (Value.slice A j c).ownBlock = some k → k ≠ w.heap.size ∧ k ≠ w.heap.size + 1 := fun k hk => ⟨own_ne HO.out hk K0.out (by decide), own_ne HO.out hk K1.out (by decide)⟩
      have hB5 : Below w.heap.size w w5 := (HB.out.alloc hws (.cells (bv noSec).toArray 77)).grown hg5 (by simp; omega) (fun k hk => (HO.out.lt k hk).1)
      have M0 := Lib.hid ((hg5.block w.heap.size (by simp; omega) (fun e => (hno _ e.symm).1 rfl)).trans ((heap_alloc_old _ _ (block_lt K0.out)).trans K0.out))
      have M1 := Lib.hid ((hg5.block (w.heap.size + 1) (by simp; omega) (fun e => (hno _ e.symm).2 rfl)).trans ((heap_alloc_old _ _ (block_lt K1.out)).trans K1.out))
      have HO5 := Lib.hid ho5
      have B5 := Lib.hid hB5
      have m1 : w5.cell? ⟨w.heap.size + 1, 0, none⟩ = some (.slice A j c) := cell_of_block M1.out 0
      have f1 := free_of_block M1.out 0
      have NX : Hid (RnRel w (j + 1) (w5.setCell ⟨w.heap.size + 1, 0, none⟩ (.slice A5 (j + 1) c5))) := Lib.hid
        ⟨B5.out.setCell (p := ⟨w.heap.size + 1, 0, none⟩) (by show w.heap.size ≤ w.heap.size + 1; omega) _, (hset_other _ _ _ (by show w.heap.size ≠ w.heap.size + 1; omega)).trans M0.out, A5, c5, hset_at w5 (w.heap.size + 1) 0 _ M1.out, by
          have e : (sv (List.replicate (j + 1) noSec)).flatten = (sv (List.replicate j noSec)).flatten ++ bv noSec := by rw [List.replicate_succ', sv, List.map_append]; simp [sv]
          rw [e]
          exact own_same HO5.out fun k hk => hset_other _ _ _ (own_ne HO5.out hk M1.out (by decide))⟩
      clear ho5 hg5 hat5 hno hB5 c1
      go_wp2_with fail
      go_roundg (gk - 1)
      case measure => omega
      case rel => exact ⟨j + 1, by omega, by go_num, NX.out⟩
    · obtain rfl : j = n := by omega
      have M6 := Lib.hid (setRow_at #[.slice A j c, .slice none 0 0, .bool false, .int .i64 0, .bool false] K0.out)
      have B6 := Lib.hid (below_setRow HB.out (Nat.le_refl _) #[.slice A j c, .slice none 0 0, .bool false, .int .i64 0, .bool false])
      have V1 : Hid ((Try.prog.info? 59).map (·.size) = some (#[.slice A j c, .slice none 0 0, .bool false, .int .i64 0, .bool false] : Array Value).size) := Lib.hid info_rd
      have V3 : Hid ((#[.slice A j c, .slice none 0 0, .bool false, .int .i64 0, .bool false] : Array Value).all (·.oneCell') = true) := Lib.hid (by simp [Value.oneCell'])
      have FIN : Hid (IsRef (wr.setRow w.heap.size #[.slice A j c, .slice none 0 0, .bool false, .int .i64 0, .bool false]) (.agg #[.slice A j c, .slice none 0 0, .bool false, .int .i64 0, .bool false]) (Dk.new j) (fun k => G k ∨ w.heap.size ≤ k)) := Lib.hid ⟨A, c, none, 0, 0, by
          have e : (Dk.new j).st.length = j := by simp [Dk.new]
          rw [rcells, e]
          rfl, ⟨Dk.new_ok j, by simp [Dk.new]; omega, by
            have e : (Dk.new j).st.length = j := by simp [Dk.new]
            rw [e]
            exact own_base (own_same HO.out fun k hk => setRow_other _ _ _ _ (own_ne HO.out hk K0.out (by decide))) (Nat.zero_le _), World.ownsRow_nil _ _ _ _, fun h => absurd (show (0 : Int) ≤ -1 from h) (by omega), by omega⟩, by
          rintro k (⟨a, ha, rfl⟩ | ⟨a, ha, rfl⟩)
          · exact .inr (HO.out.lt a.block (by rw [ha]; rfl)).1
          · cases ha⟩
      rcases HEND.out with h1 | ⟨h1, h2⟩
      all_goals
        go_wp2_with (first
          | refine wpList_load_block rfl 59 (.tmp 3) rfl (w.heap.size + 1) rfl #[.slice A j c, .slice none 0 0, .bool false, .int .i64 0, .bool false] 59 (0, 0) K1.out _ Try.underlying59 rfl V1.out ?_
          | refine wpList_store_block rfl 59 (.tmp 2) (.tmp 21) rfl w.heap.size #[.slice A j c, .slice none 0 0, .bool false, .int .i64 0, .bool false] rfl rfl #[.slice none 0 0, .slice none 0 0, .bool false, .int .i64 0, .bool false] 59 K0.out V1.out rfl V3.out ?_)
        exact bodyPost_ret (v := .agg #[.slice A j c, .slice none 0 0, .bool false, .int .i64 0, .bool false]) (res_cell Try.results22 _ _ w.heap.size 59 _ (0, 0) _ rfl M6.out Try.underlying59 rfl V1.out) rfl ⟨_, rfl, FIN.out, B6.out⟩
end Go.Proofs.Ytogkibikghbghaa.Disk
