/- The document's disk (floodgateref07) as a value, and contracts of its act, Break and Read. Conditions: none beyond each lemma's own hypotheses. -/
import Derived.Test.YtndcgofjhlndgaaFgDiskNew
set_option linter.unusedVariables false
set_option linter.unusedSimpArgs false
namespace Go.Proofs.Ytndcgofjhlndgaa.Disk
open Go.RowKit Go.Proofs.Ytndcgofjhlndgaa.Fg

/-- The value of a disk. -/
def rcells (A1 : Option Addr) (c1 : Nat) (A2 : Option Addr) (c2 : Nat) (lr : Int) (d : Dk) : Array Value := #[.slice A1 d.st.length c1, .slice A2 d.pd.length c2, .bool (decide (0 ≤ d.left)), .int .i64 lr, .bool d.down]
structure RV (w : World) (A1 : Option Addr) (c1 : Nat) (A2 : Option Addr) (c2 : Nat) (lr : Int) (d : Dk) : Prop where
  ok : d.ok
  few : d.st.length ≤ 512 ∧ d.pd.length ≤ 1000000
  st : w.ownsRow 0 25 64 (.slice A1 d.st.length c1) d.st.length (sv d.st).flatten
  pd : w.ownsRow 0 67 65 (.slice A2 d.pd.length c2) d.pd.length (pv d.pd).flatten
  eq : 0 ≤ d.left → lr = d.left
  wf : -9223372036854775808 ≤ lr ∧ lr ≤ 9223372036854775807
/-- The blocks of two slices. -/
def blks (A1 A2 : Option Addr) (k : Nat) : Prop := (∃ a, A1 = some a ∧ a.block = k) ∨ (∃ a, A2 = some a ∧ a.block = k)
theorem RV.same {w w' : World} {A1 A2 : Option Addr} {c1 c2 : Nat} {lr : Int} {d : Dk} (h : RV w A1 c1 A2 c2 lr d) (hb : ∀ k, blks A1 A2 k → k < w.heap.size → w'.heap[k]? = w.heap[k]?) : RV w' A1 c1 A2 c2 lr d :=
  ⟨h.ok, h.few, own_same h.st fun k hk => hb k (by cases A1 with | none => cases hk | some a => injection hk with hk; exact .inl ⟨a, rfl, hk⟩) (h.st.lt k hk).2,
    own_same h.pd fun k hk => hb k (by cases A2 with | none => cases hk | some a => injection hk with hk; exact .inr ⟨a, rfl, hk⟩) (h.pd.lt k hk).2, h.eq, h.wf⟩
theorem RV.below {w w' : World} {A1 A2 : Option Addr} {c1 c2 : Nat} {lr : Int} {d : Dk} (h : RV w A1 c1 A2 c2 lr d) (hb : Below w.heap.size w w') : RV w' A1 c1 A2 c2 lr d := h.same fun k _ hk => hb.block k hk
theorem RV.lt {w : World} {A1 A2 : Option Addr} {c1 c2 : Nat} {lr : Int} {d : Dk} (h : RV w A1 c1 A2 c2 lr d) {k : Nat} (hk : blks A1 A2 k) : k < w.heap.size := by
  rcases hk with ⟨a, rfl, rfl⟩ | ⟨a, rfl, rfl⟩
  · exact (h.st.lt _ rfl).2
  · exact (h.pd.lt _ rfl).2

/-- A disk's value, all of whose blocks are in G. -/
def IsRef (w : World) (v : Value) (d : Dk) (G : Nat → Prop) : Prop := ∃ A1 c1 A2 c2 lr, v = .agg (rcells A1 c1 A2 c2 lr d) ∧ RV w A1 c1 A2 c2 lr d ∧ ∀ k, blks A1 A2 k → G k
theorem IsRef.same {w w' : World} {v : Value} {d : Dk} {G : Nat → Prop} (h : IsRef w v d G) (hb : ∀ k, G k → k < w.heap.size → w'.heap[k]? = w.heap[k]?) : IsRef w' v d G := by
  obtain ⟨A1, c1, A2, c2, lr, e, h1, h2⟩ := h
  exact ⟨A1, c1, A2, c2, lr, e, h1.same fun k hk hlt => hb k (h2 k hk) hlt, h2⟩
theorem IsRef.mono {w : World} {v : Value} {d : Dk} {G G' : Nat → Prop} (h : IsRef w v d G) (hG : ∀ k, k < w.heap.size → G k → G' k) : IsRef w v d G' := by
  obtain ⟨A1, c1, A2, c2, lr, e, h1, h2⟩ := h
  exact ⟨A1, c1, A2, c2, lr, e, h1, fun k hk => hG k (h1.lt hk) (h2 k hk)⟩
/-- What an operation hands back: another disk, in older blocks of G or in new ones. -/
def RefE (w : World) (d : Dk) (G : Nat → Prop) (r : Int) (e : Ending) (w' : World) : Prop := ∃ v, e = .returned (.tuple #[v, .int .i64 r]) ∧ IsRef w' v d (fun k => G k ∨ w.heap.size ≤ k) ∧ Below w.heap.size w w'
def RefD (w : World) (d : Dk) (G : Nat → Prop) (e : Ending) (w' : World) : Prop := ∃ v, e = .returned v ∧ IsRef w' v d (fun k => G k ∨ w.heap.size ≤ k) ∧ Below w.heap.size w w'

theorem refact_any {w : World} {v : Value} {d : Dk} {G : Nat → Prop} (h : IsRef w v d G) :
    Calls Try.prog 30 #[v] w (RefE w d.act G d.actE) := by
  obtain ⟨A1, c1, A2, c2, lr, rfl, h1, h2⟩ := h
  have H1 := Lib.hid h1
  have H2 := Lib.hid h2
  have hl := h1.ok.left
  have hw := h1.wf
  have hlr := h1.eq
  have fin : ∀ (d' : Dk) (lr' r : Int) (w' : World), d'.ok → d'.st = d.st → d'.pd = d.pd → (0 ≤ d'.left → lr' = d'.left) → (-9223372036854775808 ≤ lr' ∧ lr' ≤ 9223372036854775807) → Below w.heap.size w w' → RefE w d' G r (.returned (.tuple #[.agg #[.slice A1 d.st.length c1, .slice A2 d.pd.length c2, .bool (decide (0 ≤ d'.left)), .int .i64 lr', .bool d'.down], .int .i64 r])) w' := by
    intro d' lr' r w' hok e1 e2 e3 e4 hb
    refine ⟨_, rfl, ⟨A1, c1, A2, c2, lr', by rw [rcells, e1, e2], ?_, fun k hk => .inl (H2.out k hk)⟩, hb⟩
    have h3 := H1.out.below hb
    exact ⟨hok, by rw [e1, e2]; exact h3.few, by rw [e1]; exact h3.st, by rw [e2]; exact h3.pd, e3, e4⟩
  have FIN := Lib.hid fin
  have AO := Lib.hid (Dk.act_ok h1.ok)
  clear h1 h2 fin
  unfold rcells
  by_cases hd : d.down = true
  · have HE : Hid (d.act = d ∧ d.actE = 72) := Lib.hid ⟨if_pos hd, if_pos hd⟩
    have HF := Lib.hid (fun w' => FIN.out d lr 72 w' H1.out.ok rfl rfl hlr hw)
    rw [hd] at HF
    rw [hd]
    clear hlr hl hd
    generalize decide (0 ≤ d.left) = q at *
    go_enter Try.func30, Try.ntmps30
    go_wp2_with fail
    rw [HE.out.1, HE.out.2]
    exact bodyPost_ret (v := .tuple #[.agg #[.slice A1 d.st.length c1, .slice A2 d.pd.length c2, .bool q, .int .i64 lr, .bool true], .int .i64 72]) (by simp [results, Try.results30, go_sem]) rfl (HF.out _ (by repeat (first | exact Below.refl _ _ | refine Below.setCell ?_ (by simp) _ | refine Below.alloc ?_ (by simp) _)))
  · have hd' : d.down = false := by simpa using hd
    by_cases hm : d.left = -1
    · have HE : Hid (d.act = d ∧ d.actE = 0) := Lib.hid ⟨(if_neg hd).trans (if_pos hm), (if_neg hd).trans (if_pos hm)⟩
      have HF := Lib.hid (fun w' => FIN.out d lr 0 w' H1.out.ok rfl rfl hlr hw)
      have hq : decide (0 ≤ d.left) = false := by rw [hm]; rfl
      rw [hd', hq] at HF
      rw [hd', hq]
      clear hlr hl hd hd' hm hq
      go_enter Try.func30, Try.ntmps30
      go_wp2_with fail
      rw [HE.out.1, HE.out.2]
      exact bodyPost_ret (v := .tuple #[.agg #[.slice A1 d.st.length c1, .slice A2 d.pd.length c2, .bool false, .int .i64 lr, .bool false], .int .i64 0]) (by simp [results, Try.results30, go_sem]) rfl (HF.out _ (by repeat (first | exact Below.refl _ _ | refine Below.setCell ?_ (by simp) _ | refine Below.alloc ?_ (by simp) _)))
    · have hq : decide (0 ≤ d.left) = true := by simp; omega
      have hlr' := hlr (by omega)
      by_cases hp : 0 < d.left
      · have HE : Hid (d.act = { d with left := d.left - 1 } ∧ d.actE = 0) := Lib.hid ⟨((if_neg hd).trans (if_neg hm)).trans (if_pos hp), ((if_neg hd).trans (if_neg hm)).trans (if_pos hp)⟩
        have hq2 : decide (0 ≤ d.left - 1) = true := by simp; omega
        have HF : Hid (∀ w', Below w.heap.size w w' → RefE w d.act G 0 (.returned (.tuple #[.agg #[.slice A1 d.st.length c1, .slice A2 d.pd.length c2, .bool true, .int .i64 (d.left - 1), .bool false], .int .i64 0])) w') := Lib.hid (fun w' hb => by
          have h := FIN.out { d with left := d.left - 1 } (d.left - 1) 0 w' (HE.out.1 ▸ AO.out) rfl rfl (fun _ => rfl) (by omega) hb
          rw [HE.out.1]
          simp only [hd', hq2] at h ⊢
          exact h)
        rw [hd', hq, hlr']
        have h0 : (d.left == 0) = false := beq_eq_false_iff_ne.2 (by omega)
        clear hlr hd hd' hm hq hlr' hq2
        go_enter Try.func30, Try.ntmps30
        go_wp2_with fail
        rw [HE.out.2]
        exact bodyPost_ret (v := .tuple #[.agg #[.slice A1 d.st.length c1, .slice A2 d.pd.length c2, .bool true, .int .i64 (d.left - 1), .bool false], .int .i64 0]) (by simp [results, Try.results30, go_sem]) rfl (HF.out _ (by repeat (first | exact Below.refl _ _ | refine Below.setCell ?_ (by simp) _ | refine Below.alloc ?_ (by simp) _)))
      · have h0 : d.left = 0 := by omega
        have HE : Hid (d.act = { d with down := true } ∧ d.actE = 72) := Lib.hid ⟨((if_neg hd).trans (if_neg hm)).trans (if_neg hp), ((if_neg hd).trans (if_neg hm)).trans (if_neg hp)⟩
        have HF : Hid (∀ w', Below w.heap.size w w' → RefE w d.act G 72 (.returned (.tuple #[.agg #[.slice A1 d.st.length c1, .slice A2 d.pd.length c2, .bool true, .int .i64 0, .bool true], .int .i64 72])) w') := Lib.hid (fun w' hb => by
          have h := FIN.out { d with down := true } lr 72 w' (HE.out.1 ▸ AO.out) rfl rfl hlr hw hb
          rw [HE.out.1]
          simp only [hq] at h ⊢
          rw [hlr'] at h
          rw [h0] at h ⊢
          exact h)
        rw [hd', hq, hlr', h0]
        clear hlr hd hd' hm hq hlr' hp hl h0
        go_enter Try.func30, Try.ntmps30
        go_wp2_with fail
        rw [HE.out.2]
        exact bodyPost_ret (v := .tuple #[.agg #[.slice A1 d.st.length c1, .slice A2 d.pd.length c2, .bool true, .int .i64 0, .bool true], .int .i64 72]) (by simp [results, Try.results30, go_sem]) rfl (HF.out _ (by repeat (first | exact Below.refl _ _ | refine Below.setCell ?_ (by simp) _ | refine Below.alloc ?_ (by simp) _)))
end Go.Proofs.Ytndcgofjhlndgaa.Disk
