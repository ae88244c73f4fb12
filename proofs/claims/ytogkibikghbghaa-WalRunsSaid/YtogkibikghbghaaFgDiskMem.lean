/- A disk in memory, and the contracts of its small methods. Conditions: none beyond each lemma's own hypotheses. -/
import Derived.Test.YtogkibikghbghaaFgArr
import Derived.Test.YtogkibikghbghaaFgDiskPure
set_option linter.unusedVariables false
set_option linter.unusedSimpArgs false
namespace Go.Proofs.Ytogkibikghbghaa.Disk
open Go.RowKit Go.Proofs.Ytogkibikghbghaa.Fg

/-- A pending write, as cells. -/
def pv (l : List (Nat × List Int)) : List (List Value) := l.map fun x => .int .i64 x.1 :: bv x.2
theorem pv_len {l : List (Nat × List Int)} (h : ∀ x ∈ l, x.2.length = 64) : ∀ r ∈ pv l, r.length = 65 := by
  intro r hr
  obtain ⟨s, hs, rfl⟩ := List.mem_map.1 hr
  rw [List.length_cons, bv_length, h s hs]

/-- A disk at block g. -/
structure IsD (w : World) (g sb : Nat) (vp : Value) (d : Dk) : Prop where
  ok : d.ok
  few : d.st.length ≤ 512 ∧ d.pd.length ≤ 1000000
  head : w.heap[g]? = some (.cells #[.slice (some ⟨sb, 0, none⟩) d.st.length d.st.length, vp, .int .i64 d.left, .bool d.down] 83)
  stab : Flat w sb 77 (sv d.st)
  pend : w.ownsRow 0 114 65 vp d.pd.length (pv d.pd).flatten
theorem IsD.same {w w' : World} {g sb : Nat} {vp : Value} {d : Dk} (h : IsD w g sb vp d) (hg : w'.heap[g]? = w.heap[g]?) (hs : w'.heap[sb]? = w.heap[sb]?) (hp : ∀ k, vp.ownBlock = some k → w'.heap[k]? = w.heap[k]?) : IsD w' g sb vp d :=
  ⟨h.ok, h.few, hg.trans h.head, h.stab.same hs, own_same h.pend hp⟩
theorem IsD.ne {w : World} {g sb : Nat} {vp : Value} {d : Dk} (h : IsD w g sb vp d) : g ≠ sb ∧ (∀ k, vp.ownBlock = some k → k ≠ g ∧ k ≠ sb) := by
  have h1 := h.head
  have h2 : w.heap[sb]? = some (.cells (sv d.st).flatten.toArray 77) := h.stab
  refine ⟨fun e => ?_, fun k hk => ⟨fun e => ?_, fun e => ?_⟩⟩
  · subst e
    rw [h1] at h2
    injection h2 with h2
    injection h2 with _ h2
    exact absurd h2 (by decide)
  · subst e
    exact absurd (own_type h.pend hk h1) (by decide)
  · subst e
    exact absurd (own_type h.pend hk h2) (by decide)

/-- A disk at block g; all that it is made of lies in blocks of F. -/
structure IsDisk (w : World) (g : Nat) (d : Dk) (F : Nat → Prop) : Prop where
  ex : ∃ sb vp, IsD w g sb vp d ∧ F sb ∧ ∀ k, vp.ownBlock = some k → F k
  self : F g
  lt : ∀ k, F k → k < w.heap.size
theorem IsDisk.same {w w' : World} {g : Nat} {d : Dk} {F : Nat → Prop} (h : IsDisk w g d F) (hb : ∀ k, F k → w'.heap[k]? = w.heap[k]?) : IsDisk w' g d F := by
  obtain ⟨⟨sb, vp, h1, h2, h3⟩, h4, h5⟩ := h
  refine ⟨⟨sb, vp, h1.same (hb g h4) (hb sb h2) (fun k hk => hb k (h3 k hk)), h2, h3⟩, h4, fun k hk => ?_⟩
  have hlt := h5 k hk
  have e := hb k hk
  rw [Array.getElem?_eq_getElem hlt] at e
  exact block_lt e
theorem IsDisk.keep {w w' : World} {g : Nat} {d : Dk} {F S : Nat → Prop} (h : IsDisk w g d F) (hk : Keep S w w') (hs : ∀ k, F k → ¬ S k) : IsDisk w' g d F :=
  h.same fun k hF => hk.block k (h.lt k hF) (hs k hF)
theorem IsDisk.below {w w' : World} {g : Nat} {d : Dk} {F : Nat → Prop} (h : IsDisk w g d F) (hb : Below w.heap.size w w') : IsDisk w' g d F :=
  h.same fun k hF => hb.block k (h.lt k hF)
theorem IsDisk.ok {w : World} {g : Nat} {d : Dk} {F : Nat → Prop} (h : IsDisk w g d F) : d.ok := by obtain ⟨⟨_, _, h1, _⟩, _⟩ := h; exact h1.ok
theorem IsDisk.few {w : World} {g : Nat} {d : Dk} {F : Nat → Prop} (h : IsDisk w g d F) : d.st.length ≤ 512 ∧ d.pd.length ≤ 1000000 := by obtain ⟨⟨_, _, h1, _⟩, _⟩ := h; exact h1.few

theorem len_any {w : World} {g : Nat} {d : Dk} {F : Nat → Prop} (h : IsDisk w g d F) :
    Calls Try.prog 35 #[.pointer (some ⟨g, 0, none⟩)] w fun e w' => e = .returned (.int .i64 d.st.length) ∧ w = w' := by
  obtain ⟨⟨sb, vp, h1, -⟩, -⟩ := h
  have c2 : w.cell? ⟨g, 0, none⟩ = some (.slice (some ⟨sb, 0, none⟩) d.st.length d.st.length) := cell_of_block h1.head 0
  clear h1
  go_enter Try.func35, Try.ntmps35
  go_wp2_with fail
  go_ret
  exact ⟨rfl, rfl⟩
theorem down_any {w : World} {g : Nat} {d : Dk} {F : Nat → Prop} (h : IsDisk w g d F) :
    Calls Try.prog 16 #[.pointer (some ⟨g, 0, none⟩)] w fun e w' => e = .returned (.bool d.down) ∧ w = w' := by
  obtain ⟨⟨sb, vp, h1, -⟩, -⟩ := h
  have c2 : w.cell? ⟨g, 3, none⟩ = some (.bool d.down) := cell_of_block h1.head 3
  clear h1
  go_enter Try.func16, Try.ntmps16
  go_wp2_with fail
  go_ret
  exact ⟨rfl, rfl⟩
theorem there_any {w : World} {g : Nat} {d : Dk} {F : Nat → Prop} (h : IsDisk w g d F) (i : Int) :
    Calls Try.prog 55 #[.pointer (some ⟨g, 0, none⟩), .int .i64 i] w fun e w' => e = .returned (.bool (d.there i)) ∧ w = w' := by
  obtain ⟨⟨sb, vp, h1, -⟩, -⟩ := h
  have c2 : w.cell? ⟨g, 0, none⟩ = some (.slice (some ⟨sb, 0, none⟩) d.st.length d.st.length) := cell_of_block h1.head 0
  clear h1
  by_cases h0 : 0 ≤ i
  · have hT : d.there i = decide (i < (d.st.length : Int)) := by simp [Dk.there, h0]
    have HT := Lib.hid hT
    clear hT
    go_enter Try.func55, Try.ntmps55
    go_wp2_with fail
    go_ret
    exact ⟨ret_bool HT.out.symm, rfl⟩
  · have hT : d.there i = false := by simp [Dk.there, h0]
    have HT := Lib.hid hT
    clear hT
    go_enter Try.func55, Try.ntmps55
    go_wp2_with fail
    go_ret
    exact ⟨ret_bool HT.out.symm, rfl⟩

/-- What a method that turns the disk leaves. -/
def Turned (w : World) (g : Nat) (d : Dk) (F : Nat → Prop) (w' : World) : Prop := ∃ F', IsDisk w' g d F' ∧ Keep F w w' ∧ ∀ k, F' k → F k ∨ w.heap.size ≤ k
def TurnedE (w : World) (g : Nat) (d : Dk) (F : Nat → Prop) (r : Int) (e : Ending) (w' : World) : Prop := e = .returned (.int .i64 r) ∧ Turned w g d F w'
theorem Turned.refl {w : World} {g : Nat} {d : Dk} {F : Nat → Prop} (h : IsDisk w g d F) : Turned w g d F w := ⟨F, h, Keep.refl _ _, fun _ h => .inl h⟩
theorem Turned.trans {w w1 w2 : World} {g : Nat} {d' : Dk} {F F1 : Nat → Prop} (h : Keep F w w1) (hF : ∀ k, F1 k → F k ∨ w.heap.size ≤ k) (k : Turned w1 g d' F1 w2) : Turned w g d' F w2 := by
  obtain ⟨F2, h1, h2, h3⟩ := k
  refine ⟨F2, h1, h.trans h2 (fun i hi hF1 => ?_), fun i hi => ?_⟩
  · rcases hF i hF1 with h | h
    · exact h
    · omega
  · rcases h3 i hi with h' | h'
    · exact hF i h'
    · right; have := h.size; omega
/-- One cell of the head is another. -/
theorem IsDisk.set {w : World} {g : Nat} {d d' : Dk} {F : Nat → Prop} (h : IsDisk w g d F) (j : Nat) (v : Value) (hok : d'.ok) (hst : d'.st = d.st) (hpd : d'.pd = d.pd)
    (hj : ∀ (x y : Value), (#[x, y, .int .i64 d.left, .bool d.down] : Array Value).setIfInBounds j v = #[x, y, .int .i64 d'.left, .bool d'.down]) : Turned w g d' F (w.setCell ⟨g, j, none⟩ v) := by
  obtain ⟨⟨sb, vp, h1, h2, h3⟩, h4, h5⟩ := h
  have hne := h1.ne
  refine ⟨F, ⟨⟨sb, vp, ⟨hok, by rw [hst, hpd]; exact h1.few, ?_, ?_, ?_⟩, h2, h3⟩, h4, fun k hk => by simpa using h5 k hk⟩, (Keep.refl _ _).setCell _ _ (fun _ => h4), fun _ h => .inl h⟩
  · rw [hset_at w g j v h1.head, hj, hst]
  · rw [hst]; exact h1.stab.same (hset_other _ _ _ (fun e => hne.1 e.symm))
  · rw [hpd]; exact own_same h1.pend fun k hk => hset_other _ _ _ (hne.2 k hk).1
theorem brk_any {w : World} {g : Nat} {d : Dk} {F : Nat → Prop} (h : IsDisk w g d F) (n : Int) (hn : n ≤ 9223372036854775807) :
    Calls Try.prog 15 #[.pointer (some ⟨g, 0, none⟩), .int .i64 n] w fun e w' => e = .returned (.tuple #[]) ∧ Turned w g (d.brk n) F w' := by
  have HD := Lib.hid h
  obtain ⟨⟨sb, vp, h1, -⟩, -⟩ := h
  have c2 : w.cell? ⟨g, 2, none⟩ = some (.int .i64 d.left) := cell_of_block h1.head 2
  have f2 := free_of_block h1.head 2
  clear h1
  go_enter Try.func15, Try.ntmps15
  go_wp2_with fail
  · go_end0
    have e : (d.brk n).left = -1 := by show (if n < -1 then -1 else n : Int) = -1; split <;> omega
    exact ⟨rfl, HD.out.set 2 _ (Dk.brk_ok HD.out.ok hn) rfl rfl (fun x y => by rw [e]; rfl)⟩
  · go_end0
    have e : (d.brk n).left = n := by show (if n < -1 then -1 else n : Int) = n; split <;> omega
    exact ⟨rfl, HD.out.set 2 _ (Dk.brk_ok HD.out.ok hn) rfl rfl (fun x y => by rw [e]; rfl)⟩

theorem act_any {w : World} {g : Nat} {d : Dk} {F : Nat → Prop} (h : IsDisk w g d F) :
    Calls Try.prog 62 #[.pointer (some ⟨g, 0, none⟩)] w (TurnedE w g d.act F d.actE) := by
  have HD := Lib.hid h
  obtain ⟨⟨sb, vp, h1, -⟩, -⟩ := h
  have c2 : w.cell? ⟨g, 2, none⟩ = some (.int .i64 d.left) := cell_of_block h1.head 2
  have c3 : w.cell? ⟨g, 3, none⟩ = some (.bool d.down) := cell_of_block h1.head 3
  have f2 := free_of_block h1.head 2
  have f3 := free_of_block h1.head 3
  have hl := h1.ok.left
  clear h1
  by_cases hd : d.down = true
  · have HE : Hid (d.act = d ∧ d.actE = 72) := Lib.hid ⟨if_pos hd, if_pos hd⟩
    have HT : Hid (Turned w g d F (w.setCell ⟨g, 3, none⟩ (.bool true))) := Lib.hid (HD.out.set 3 (.bool true) HD.out.ok rfl rfl (fun x y => by rw [hd]; rfl))
    rw [hd] at c3
    clear hd
    go_enter Try.func62, Try.ntmps62
    go_wp2_with fail
    go_ret
    refine ⟨ret_int HE.out.2.symm, ?_⟩
    rw [HE.out.1]
    exact HT.out
  · have hd' : d.down = false := by simpa using hd
    have HN : Hid (d.down = false) := Lib.hid hd'
    rw [hd'] at c3
    by_cases hm : d.left = -1
    · have HE : Hid (d.act = d ∧ d.actE = 0) := Lib.hid ⟨(if_neg hd).trans (if_pos hm), (if_neg hd).trans (if_pos hm)⟩
      rw [hm] at c2
      clear hd hd' hm hl
      go_enter Try.func62, Try.ntmps62
      go_wp2_with fail
      go_ret
      refine ⟨ret_int HE.out.2.symm, ?_⟩
      rw [HE.out.1]
      exact Turned.refl HD.out
    · have hm' : (d.left == -1) = false := beq_eq_false_iff_ne.2 hm
      by_cases hp : 0 < d.left
      · have HE : Hid (d.act = { d with left := d.left - 1 } ∧ d.actE = 0) := Lib.hid ⟨((if_neg hd).trans (if_neg hm)).trans (if_pos hp), ((if_neg hd).trans (if_neg hm)).trans (if_pos hp)⟩
        have HT : Hid (Turned w g { d with left := d.left - 1 } F (w.setCell ⟨g, 2, none⟩ (.int .i64 (d.left - 1)))) := by
          have hok := Dk.act_ok HD.out.ok
          rw [HE.out.1] at hok
          exact Lib.hid (HD.out.set 2 _ hok rfl rfl (fun x y => by rfl))
        clear hd hd'
        go_enter Try.func62, Try.ntmps62
        go_wp2_with fail
        go_ret
        refine ⟨ret_int HE.out.2.symm, ?_⟩
        rw [HE.out.1]
        exact HT.out
      · have HE : Hid (d.act = { d with down := true } ∧ d.actE = 72) := Lib.hid ⟨((if_neg hd).trans (if_neg hm)).trans (if_neg hp), ((if_neg hd).trans (if_neg hm)).trans (if_neg hp)⟩
        have HT : Hid (Turned w g { d with down := true } F (w.setCell ⟨g, 3, none⟩ (.bool true))) := by
          have hok := Dk.act_ok HD.out.ok
          rw [HE.out.1] at hok
          exact Lib.hid (HD.out.set 3 _ hok rfl rfl (fun x y => by rfl))
        clear hd hd'
        go_enter Try.func62, Try.ntmps62
        go_wp2_with fail
        go_ret
        refine ⟨ret_int HE.out.2.symm, ?_⟩
        rw [HE.out.1]
        exact HT.out
end Go.Proofs.Ytogkibikghbghaa.Disk
