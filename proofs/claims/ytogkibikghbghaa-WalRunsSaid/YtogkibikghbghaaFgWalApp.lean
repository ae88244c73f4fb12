/- Contract of wal's Append. Conditions: none beyond each lemma's own hypotheses. -/
import Derived.Test.YtogkibikghbghaaFgWalMem
import Derived.Deep.RegionHeld3
set_option linter.unusedVariables false
set_option linter.unusedSimpArgs false
namespace Go.Proofs.Ytogkibikghbghaa.Wal
open Go.RowKit Go.Proofs.Ytogkibikghbghaa.Fg Go.Proofs.Ytogkibikghbghaa.Frame Go.Proofs.Ytogkibikghbghaa.Disk Go.Proofs.Ytogkibikghbghaa.Area

/-- How far a record is laid, in a region with one alloc (ka) and one store at its end (ks). -/
def OpJ (ka ks : Nat) (w2 : World) (V1 V2 : Int) (s : Value) (d : Nat → Bool) (w : World) : Prop :=
  (d ka = false ∧ d ks = false ∧ w = w2.drew) ∨ (d ka = true ∧ d ks = false ∧ w = OpW w2) ∨ (d ka = true ∧ d ks = true ∧ w = OpZ w2 V1 V2 s)
section
variable {ka ks : Nat} {w2 w : World} {V1 V2 : Int} {s : Value} {d : Nat → Bool}
theorem OpJ.same (h : OpJ ka ks w2 V1 V2 s d w) : ∀ k, k < w2.heap.size → w.heap[k]? = w2.heap[k]? := by
  intro k hk
  have e : (OpW w2).heap[k]? = w2.heap[k]? := heap_alloc_old w2.drew _ hk
  rcases h with ⟨-, -, rfl⟩ | ⟨-, -, rfl⟩ | ⟨-, -, rfl⟩
  · rfl
  · exact e
  · unfold OpZ
    rw [hset_other _ _ _ (by show k ≠ w2.heap.size; omega), hset_other _ _ _ (by show k ≠ w2.heap.size; omega), hset_other _ _ _ (by show k ≠ w2.heap.size; omega), e]
theorem OpJ.pass {k : Nat} (h : OpJ ka ks w2 V1 V2 s d w) (h1 : k ≠ ka) (h2 : k ≠ ks) : OpJ ka ks w2 V1 V2 s (fun j => if j = k then true else d j) w := by
  have e1 : (fun j => if j = k then true else d j) ka = d ka := if_neg (Ne.symm h1)
  have e2 : (fun j => if j = k then true else d j) ks = d ks := if_neg (Ne.symm h2)
  unfold OpJ
  rw [e1, e2]
  exact h
theorem OpJ.ata (h : OpJ ka ks w2 V1 V2 s d w) (hd : d ka = false) : d ks = false ∧ w = w2.drew := by
  rcases h with ⟨-, h1, h2⟩ | ⟨h1, -⟩ | ⟨h1, -⟩
  · exact ⟨h1, h2⟩
  · rw [hd] at h1; cases h1
  · rw [hd] at h1; cases h1
theorem OpJ.dida (hne : ka ≠ ks) (h : d ks = false) : OpJ ka ks w2 V1 V2 s (fun j => if j = ka then true else d j) (OpW w2) := .inr (.inl ⟨if_pos rfl, (if_neg (Ne.symm hne)).trans h, rfl⟩)
theorem OpJ.ats (h : OpJ ka ks w2 V1 V2 s d w) (hd : d ka = true) (h11 : d ks = false) : w = OpW w2 := by
  rcases h with ⟨h1, -⟩ | ⟨-, -, h2⟩ | ⟨-, h1, -⟩
  · rw [hd] at h1; cases h1
  · exact h2
  · rw [h11] at h1; cases h1
theorem OpJ.dids (hne : ka ≠ ks) (h : d ka = true) : OpJ ka ks w2 V1 V2 s (fun j => if j = ks then true else d j) (OpZ w2 V1 V2 s) := .inr (.inr ⟨(if_neg hne).trans h, if_pos rfl, rfl⟩)
theorem OpJ.fin (h : OpJ ka ks w2 V1 V2 s d w) (h11 : d ks = true) : w = OpZ w2 V1 V2 s := by
  rcases h with ⟨-, h1, -⟩ | ⟨-, h1, -⟩ | ⟨-, -, h1⟩
  · rw [h11] at h1; cases h1
  · rw [h11] at h1; cases h1
  · exact h1
end

/-! Sectors written one behind the other. -/
theorem put_st (d : Dk) (i : Int) (s : List Int) : (d.put i s).st = d.st := by
  unfold Dk.put
  split
  · split
    · exact Dk.act_st d
    · exact Dk.act_st d
  · rfl
theorem put_pd (d : Dk) (i : Int) (s : List Int) : (d.put i s).pd.length ≤ d.pd.length + 1 := by
  unfold Dk.put
  split
  · split
    · show (d.pd ++ [_]).length ≤ _; simp
    · rw [Dk.act_pd]; omega
  · omega
theorem putAll_st : ∀ (r : List (List Int)) (d : Dk) (i : Int), (putAll d i r).st = d.st
  | [], _, _ => rfl
  | s :: r, d, i => by
    rw [putAll]
    split
    · rw [putAll_st r, put_st]
    · exact put_st d i s
theorem putAll_pd : ∀ (r : List (List Int)) (d : Dk) (i : Int), (putAll d i r).pd.length ≤ d.pd.length + r.length
  | [], _, _ => by simp [putAll]
  | s :: r, d, i => by
    have h1 := put_pd d i s
    rw [putAll]
    split
    · have := putAll_pd r (d.put i s) (i + 1)
      simp only [List.length_cons]; omega
    · simp only [List.length_cons]; omega
theorem putAll_byt : ∀ (r : List (List Int)) (d : Dk) (i : Int), Byt d → (∀ s ∈ r, Crc.Small s) → Byt (putAll d i r)
  | [], _, _, h, _ => h
  | s :: r, d, i, h, hr => by
    have h1 := h.put i (hr s (by simp))
    rw [putAll]
    split
    · exact putAll_byt r _ _ h1 (fun x hx => hr x (by simp [hx]))
    · exact h1
theorem appD_st (l : Lg) (d : Dk) (p : List Int) : (l.appD d p).st = d.st := by
  unfold Lg.appD
  split
  · rfl
  · split
    · exact putAll_st _ _ _
    · rfl
theorem rcd_ok {N : Int} {l : Lg} (h : l.ok N) {p : List Int} (hp : Crc.Small p) : (l.rcd p).ok := by
  have := h.n0
  have := h.n1
  refine ⟨?_, ?_, h.e0, h.e1, hp⟩
  · show 0 ≤ (if l.next = 0 then 1 else l.next); split <;> omega
  · show (if l.next = 0 then 1 else l.next) < _; split <;> omega
theorem rcd_good {l : Lg} {p : List Int} (hp : p.length ≤ 700) : (l.rcd p).good := by
  refine ⟨hp, ?_⟩
  show (if l.next = 0 then (1 : Int) else l.next) ≠ 0
  split <;> omega
theorem place_range {N : Int} {l : Lg} (h : l.ok N) {many : Int} (hm : 0 ≤ many ∧ many ≤ 12) : okB N (l.placeSeg N many) = true ∧ 0 ≤ l.placeAt many ∧ l.placeAt many + many ≤ 16 := by
  have := h.t0
  have := h.t1
  refine ⟨?_, ?_, ?_⟩
  · unfold Lg.placeSeg; split
    · exact h.sg
    · exact nextV_ok h.sg
  · unfold Lg.placeAt; split <;> omega
  · unfold Lg.placeAt; split <;> omega
theorem appL_ok {l : Lg} {d : Dk} (h : l.ok d.st.length) (p : List Int) : (l.appL d p).ok d.st.length := by
  unfold Lg.appL
  split
  · have hr := secs_range ((l.rcd p).pay.length : Int)
    have hm : 0 ≤ ((l.rcd p).many : Int) ∧ ((l.rcd p).many : Int) ≤ 12 := by unfold Rec.many; omega
    obtain ⟨h1, h2, h3⟩ := place_range h hm
    exact ⟨h.e0, h.e1, by show 0 ≤ (l.next + 1) % _; omega, by show (l.next + 1) % _ < _; omega, h.st, h1, by show 0 ≤ l.placeAt _ + _; omega, h3⟩
  · exact h

/-- What an Append leaves. -/
def AppE (w : World) (lb g : Nat) (l : Lg) (d : Dk) (F : Nat → Prop) (p : List Int) (e : Ending) (w' : World) : Prop :=
  ∃ F', e = .returned (.tuple #[.int .u64 (l.appN d p), .int .i64 (l.appE d p)]) ∧ IsLog w' lb g (l.appL d p) (l.appD d p) F' ∧ Keep (fun k => F k ∨ k = lb) w w' ∧ ∀ k, F' k → F k ∨ w.heap.size ≤ k
theorem AppE.same {w w' : World} {lb g : Nat} {l : Lg} {d : Dk} {F : Nat → Prop} {p : List Int} {r : Int} (h : IsLog w lb g l d F) (hb : Below w.heap.size w w') (hE : l.appE d p = r) (hr : r ≠ 0) (hD : l.appD d p = d) :
    AppE w lb g l d F p (.returned (.tuple #[.int .u64 0, .int .i64 r])) w' := by
  have hL : l.appL d p = l := if_neg (by rw [hE]; exact hr)
  refine ⟨F, ?_, ?_, Keep.of_new hb, fun k hk => .inl hk⟩
  · rw [Lg.appN, if_neg (by rw [hE]; exact hr), hE]
  · rw [hL, hD]; exact h.below hb

/-- How far an append's writes have come. -/
def AppRel (w4 : World) (g : Nat) (d : Dk) (F : Nat → Prop) (rows : List (List Int)) (i0 : Int) (j : Nat) (wr : World) : Prop :=
  ∃ dj Fj, putAll d i0 rows = putAll dj (i0 + j) (rows.drop j) ∧ putAllE d i0 rows = putAllE dj (i0 + j) (rows.drop j) ∧ dj.st = d.st ∧ dj.pd.length ≤ d.pd.length + j ∧ Byt dj ∧ IsDisk wr g dj Fj ∧ Keep F w4 wr ∧
    ∀ k, Fj k → F k ∨ w4.heap.size ≤ k
theorem AppRel.start {w4 : World} {g : Nat} {d : Dk} {F : Nat → Prop} {rows : List (List Int)} {i0 : Int} (h : IsDisk w4 g d F) (hb : Byt d) : AppRel w4 g d F rows i0 0 w4 :=
  ⟨d, F, by simp, by simp, rfl, by simp, hb, h, Keep.refl _ _, fun k hk => .inl hk⟩
theorem set3l {w : World} {b : Nat} {x0 x1 x2 x3 x4 x5 y2 y4 y5 : Value} {t : TypeId} {fr : Nat × Nat} (h : w.heap[b]? = some (.cells #[x0, x1, x2, x3, x4, x5] t fr)) :
    (((w.setCell ⟨b, 4, none⟩ y4).setCell ⟨b, 5, none⟩ y5).setCell ⟨b, 2, none⟩ y2).heap[b]? = some (.cells #[x0, x1, y2, x3, y4, y5] t fr) :=
  hset_at _ _ 2 _ (hset_at _ _ 5 _ (hset_at _ _ 4 _ h))
theorem keep_set3l {S : Nat → Prop} {a w : World} {b : Nat} {y2 y4 y5 : Value} (h : Keep S a w) (hS : S b) :
    Keep S a (((w.setCell ⟨b, 4, none⟩ y4).setCell ⟨b, 5, none⟩ y5).setCell ⟨b, 2, none⟩ y2) :=
  ((h.setCell ⟨b, 4, none⟩ y4 (fun _ => hS)).setCell ⟨b, 5, none⟩ y5 (fun _ => hS)).setCell ⟨b, 2, none⟩ y2 (fun _ => hS)

set_option maxRecDepth 100000 in
set_option maxHeartbeats 8000000 in
theorem append_any {w : World} {lb g : Nat} {l : Lg} {d : Dk} {F : Nat → Prop} (h : IsLog w lb g l d F) (p : List Int) (hps : Crc.Small p) (hpl : p.length ≤ 100000) (A : Option Addr) (c : Nat) (hs : Fg.Src w A p.length c (bv p)) (hn : d.pd.length + 12 < 1000000) :
    Calls Try.prog 12 #[.pointer (some ⟨lb, 0, none⟩), .slice A p.length c] w (AppE w lb g l d F p) := by
  have H := Lib.hid h
  have HS := Lib.hid hs
  have HLB := Lib.hid (block_lt h.head)
  have ROK := Lib.hid (rcd_ok h.ok hps)
  obtain ⟨sq, hsq⟩ : ∃ sq, (l.rcd p).seq = sq := ⟨_, rfl⟩
  have HSQ := Lib.hid hsq
  have hn0 := h.ok.n0
  have SQ : Hid ((if l.next < 1 then 1 else l.next) = sq) := Lib.hid (by
    rw [← hsq]
    show _ = (if l.next = 0 then (1 : Int) else l.next)
    split <;> split <;> omega)
  clear h hs hsq hn0
  go_enter Try.func12, Try.ntmps12
  go_upto_region 1 with fail
  -- region wa1
  apply wp_region_words2 (fun _ _ => True) (OpJ 11 12 w sq l.epoch (.slice A p.length c))
    [isVal _, isVal _, isVal _, isVal (.int .u64 l.next), isVal (.int .u64 sq), isVal _, isVal _, isVal _, isVal (.int .u32 l.epoch), isVal _, isVal (.agg #[.int .u64 sq, .int .u32 l.epoch, .slice A p.length c]), isVal (.pointer (some ⟨w.heap.size, 0, none⟩)), fun _ _ => True]
    [[], [0], [1], [2], [3], [], [5], [6], [7], [], [4, 8, 9], [], [10, 11]] [0, 1, 2, 3, 4, 5, 6, 7, 8, 9, 10, 11, 12] (by kernel_rfl) (by kernel_rfl) ?hFc ?standc ?hIc ?stepsc ?finc
  case hFc => intro v; simp [fillFrom, Act.put]; rfl
  case standc =>
    repeat' (first | exact trivial | (refine And.intro ?_ ?_))
    all_goals first | exact (fun _ _ _ _ _ _ => trivial) | (intro u w w' h _ _; exact h)
  case hIc => exact .inl ⟨rfl, rfl, rfl⟩
  case stepsc =>
    refine And.intro ?_ ?_
    · intro d v w' hdk hI hdn hd K hK
      simp only [allOf, word, List.getD_cons_zero, List.getD_cons_succ, isVal, and_true, true_and] at hd
      have HK := Lib.hid hK
      clear hK
      go_simp
      exact HK.out _ _ rfl (hI.pass (by decide) (by decide)) (trivial)
    refine And.intro ?_ ?_
    · intro d v w' hdk hI hdn hd K hK
      simp only [allOf, word, List.getD_cons_zero, List.getD_cons_succ, isVal, and_true, true_and] at hd
      try simp only [hd] at hK
      have HK := Lib.hid hK
      clear hK
      go_simp
      exact HK.out _ _ rfl (hI.pass (by decide) (by decide)) (trivial)
    refine And.intro ?_ ?_
    · intro d v w' hdk hI hdn hd K hK
      simp only [allOf, word, List.getD_cons_zero, List.getD_cons_succ, isVal, and_true, true_and] at hd
      try simp only [hd] at hK
      have HK := Lib.hid hK
      clear hK
      go_simp
      exact HK.out _ _ rfl (hI.pass (by decide) (by decide)) (trivial)
    refine And.intro ?_ ?_
    · intro d v w' hdk hI hdn hd K hK
      simp only [allOf, word, List.getD_cons_zero, List.getD_cons_succ, isVal, and_true, true_and] at hd
      simp only [hd] at hK
      have cc := (World.cell?_of_block (a := ⟨lb, 2, none⟩) (hI.same lb HLB.out)).trans (H.out.cell 2)
      simp only [lcells] at cc
      have HK := Lib.hid hK
      clear hK
      go_simp
      exact HK.out _ _ rfl (hI.pass (by decide) (by decide)) (trivial)
    refine And.intro ?_ ?_
    · intro d v w' hdk hI hdn hd K hK
      simp only [allOf, word, List.getD_cons_zero, List.getD_cons_succ, isVal, and_true, true_and] at hd
      try simp only [hd] at hK
      have HK := Lib.hid hK
      clear hK
      go_simp
      exact HK.out _ _ (by first | rfl | (rw [SQ.out]; rfl)) (hI.pass (by decide) (by decide)) trivial
    refine And.intro ?_ ?_
    · intro d v w' hdk hI hdn hd K hK
      simp only [allOf, word, List.getD_cons_zero, List.getD_cons_succ, isVal, and_true, true_and] at hd
      have HK := Lib.hid hK
      clear hK
      go_simp
      exact HK.out _ _ rfl (hI.pass (by decide) (by decide)) (trivial)
    refine And.intro ?_ ?_
    · intro d v w' hdk hI hdn hd K hK
      simp only [allOf, word, List.getD_cons_zero, List.getD_cons_succ, isVal, and_true, true_and] at hd
      try simp only [hd] at hK
      have HK := Lib.hid hK
      clear hK
      go_simp
      exact HK.out _ _ rfl (hI.pass (by decide) (by decide)) (trivial)
    refine And.intro ?_ ?_
    · intro d v w' hdk hI hdn hd K hK
      simp only [allOf, word, List.getD_cons_zero, List.getD_cons_succ, isVal, and_true, true_and] at hd
      try simp only [hd] at hK
      have HK := Lib.hid hK
      clear hK
      go_simp
      exact HK.out _ _ rfl (hI.pass (by decide) (by decide)) (trivial)
    refine And.intro ?_ ?_
    · intro d v w' hdk hI hdn hd K hK
      simp only [allOf, word, List.getD_cons_zero, List.getD_cons_succ, isVal, and_true, true_and] at hd
      simp only [hd] at hK
      have cc := (World.cell?_of_block (a := ⟨lb, 1, none⟩) (hI.same lb HLB.out)).trans (H.out.cell 1)
      simp only [lcells] at cc
      have HK := Lib.hid hK
      clear hK
      go_simp
      exact HK.out _ _ rfl (hI.pass (by decide) (by decide)) (trivial)
    refine And.intro ?_ ?_
    · intro d v w' hdk hI hdn hd K hK
      simp only [allOf, word, List.getD_cons_zero, List.getD_cons_succ, isVal, and_true, true_and] at hd
      have HK := Lib.hid hK
      clear hK
      go_simp
      exact HK.out _ _ rfl (hI.pass (by decide) (by decide)) (trivial)
    refine And.intro ?_ ?_
    · intro d v w' hdk hI hdn hd K hK
      simp only [allOf, word, List.getD_cons_zero, List.getD_cons_succ, isVal, and_true, true_and] at hd
      try simp only [hd] at hK
      have HK := Lib.hid hK
      clear hK
      go_simp
      exact HK.out _ _ rfl (hI.pass (by decide) (by decide)) (trivial)
    refine And.intro ?_ ?_
    · intro d v w' hdk hI hdn hd K hK
      simp only [allOf, word, List.getD_cons_zero, List.getD_cons_succ, isVal, and_true, true_and] at hd
      obtain ⟨hd11, rfl⟩ := hI.ata hdk
      have HK := Lib.hid hK
      clear hK
      go_simp
      exact HK.out _ _ rfl (OpJ.dida (by decide) hd11) trivial
    refine And.intro ?_ ?_
    · intro d v w' hdk hI hdn hd K hK
      simp only [allOf, word, List.getD_cons_zero, List.getD_cons_succ, isVal, and_true, true_and] at hd
      simp only [hd] at hK
      have hq := hI.ats (by simp only [allTrue, List.getD_cons_zero, List.getD_cons_succ] at hdn; exact hdn.2.1) hdk
      subst hq
      have kk := opW_at w
      have k0 := cell_of_block kk 0
      have k1 := cell_of_block kk 1
      have k2 := cell_of_block kk 2
      have f0 := free_of_block kk 0
      have f1 := free_of_block kk 1
      have f2 := free_of_block kk 2
      clear kk
      have HK := Lib.hid hK
      clear hK
      go_simp
      exact HK.out undef _ trivial (OpJ.dids (by decide) (by simp only [allTrue, List.getD_cons_zero, List.getD_cons_succ] at hdn; exact hdn.2.1)) trivial
    exact trivial
  intro v w1 du hall hI hd
  simp only [allOf, word, List.getD_cons_zero, List.getD_cons_succ, isVal, and_true, true_and] at hd
  obtain ⟨h0, h1, h2, h3, h4, h5, h6, h7, h8, h9, h10, h11⟩ := hd
  simp only [h0, h1, h2, h3, h4, h5, h6, h7, h8, h9, h10, h11]
  clear h0 h1 h2 h3 h4 h5 h6 h7 h8 h9 h10 h11
  -- end region wa1
  have hw1 : w1 = OpZ w sq l.epoch (.slice A p.length c) := hI.fin (hall 12 (by decide))
  subst hw1
  clear hI hall SQ
  have ZA := Lib.hid (opZ_at w sq l.epoch (.slice A p.length c))
  have ZB := Lib.hid (opZ_below w sq l.epoch (.slice A p.length c))
  have HSZ : Hid (w.heap.size < (OpZ w sq l.epoch (.slice A p.length c)).heap.size) := Lib.hid (block_lt ZA.out)
  generalize OpZ w sq l.epoch (.slice A p.length c) = w1 at *
  have q0 := cell_of_block ZA.out 0
  have q1 := cell_of_block ZA.out 1
  have q2 := cell_of_block ZA.out 2
  have S1 : Hid (Fg.Src w1 A p.length c (bv p)) := Lib.hid (HS.out.same fun ad had hne => ZB.out.block _ (HS.out.lt had hne))
  have MK := make_any (l.rcd p) ROK.out (show p.length ≤ 100000 from hpl) A c w1 S1.out
  unfold recv at MK
  rw [HSQ.out, show (l.rcd p).epoch = l.epoch from rfl, show (l.rcd p).pay = p from rfl] at MK
  have MK := Lib.hid MK
  go_wp2_with fail
  refine MK.out.mono ?_
  rintro e w2 ⟨A6, c6, rfl, ho2, hb2⟩
  have B2 : Hid (Below w.heap.size w w2) := Lib.hid (ZB.out.trans (hb2.mono ZB.out.size))
  have ZA2 : Hid (w2.heap[w.heap.size]? = some (.cells #[.int .u64 sq, .int .u32 l.epoch, .slice A p.length c] 40 (0, 0))) := Lib.hid ((hb2.block _ HSZ.out).trans ZA.out)
  have L2 := Lib.hid (H.out.below B2.out)
  by_cases h7 : 700 < p.length
  · have hbad : ¬ (l.rcd p).good := fun hg => by have : p.length ≤ 700 := hg.1; omega
    have hE : Hid (l.appE d p = 81 ∧ l.appD d p = d) := Lib.hid ⟨if_pos h7, if_pos h7⟩
    rw [show (l.rcd p).err = 81 from if_neg hbad]
    clear hbad h7 ho2 hb2 q0 q1 q2
    go_wp2_with fail
    exact bodyPost_ret (v := .tuple #[.int .u64 0, .int .i64 81]) (by simp [results, Try.results12, go_sem]) rfl (AppE.same H.out B2.out hE.out.1 (by decide) hE.out.2)
  · have hg : (l.rcd p).good := rcd_good (by omega)
    have hml := Rec.made_length hg
    have hmr : 0 < (l.rcd p).many ∧ (l.rcd p).many ≤ 12 := by
      rw [Rec.many_of hg.1]
      have : (l.rcd p).pay.length ≤ 700 := hg.1
      omega
    rw [show (l.rcd p).err = 0 from if_pos hg]
    have HOK : Hid (Secs (l.rcd p).made) := Lib.hid (Rec.made_secs ROK.out.small)
    have SL := Lib.hid (SecsAt.of_own ho2 HOK.out)
    have hE : Hid (l.appE d p = (if l.placeOk d.st.length (l.rcd p).many = true then putAllE d (l.at_ d.st.length (l.rcd p).many) (l.rcd p).made else 101) ∧
      l.appD d p = (if l.placeOk d.st.length (l.rcd p).many = true then putAll d (l.at_ d.st.length (l.rcd p).many) (l.rcd p).made else d)) := Lib.hid ⟨if_neg h7, if_neg h7⟩
    obtain ⟨m, hm⟩ : ∃ m, (l.rcd p).many = m := ⟨_, rfl⟩
    rw [hm] at hml hmr hE
    have HM := Lib.hid hm
    have HML := Lib.hid hml
    rw [hml]
    have PR := Lib.hid (place_range H.out.ok (many := (m : Int)) ⟨by omega, by omega⟩)
    have PL := Lib.hid (place_any L2.out (m : Int) ⟨by omega, by omega⟩)
    obtain ⟨hm0, hm1⟩ := hmr
    have hmI : (m : Int) ≤ 12 := by omega
    have HOB := Lib.hid (fun k hk => (ho2.lt k hk).1)
    clear hg hml hm h7 ho2 hb2 q0 q1 q2
    go_wp2_with fail
    refine PL.out.mono ?_
    rintro e w3 ⟨sg, at_, rfl, hb3, hpl3⟩
    have B3 : Hid (Below w.heap.size w w3) := Lib.hid (B2.out.trans (hb3.mono B2.out.size))
    have B23 := Lib.hid hb3
    clear hb3
    by_cases hok : l.placeOk d.st.length m = true
    · obtain ⟨rfl, rfl⟩ := hpl3 hok
      rw [if_pos hok, if_pos hok] at hE
      rw [hok]
      have HNX : Hid (l.next ≠ 0) := Lib.hid (fun h0 => by rw [Lg.placeOk, h0] at hok; simp at hok)
      clear hok hpl3
      have L3 := Lib.hid (H.out.below B3.out)
      have c0 := L3.out.cell 0
      simp only [lcells] at c0
      have SG := Lib.hid (fun w' => Area.seg_any (d.st.length : Int) (l.placeSeg d.st.length m) w')
      have hat : Hid (l.at_ d.st.length m = segV d.st.length (l.placeSeg d.st.length m) + l.placeAt m) := Lib.hid rfl
      have hsgv : segV d.st.length (l.placeSeg d.st.length m) = 32 + l.placeSeg d.st.length m * 16 := if_pos PR.out.1
      have hsgr := okB_in PR.out.1
      obtain ⟨fst, hfst⟩ : ∃ x, segV d.st.length (l.placeSeg d.st.length m) = x := ⟨_, rfl⟩
      rw [hfst] at hat
      have hfr : 0 ≤ fst ∧ fst ≤ 512 := by rw [← hfst, hsgv]; omega
      obtain ⟨hfr0, hfr1⟩ := hfr
      obtain ⟨pa, hpa⟩ : ∃ x, l.placeAt m = x := ⟨_, rfl⟩
      rw [hpa] at hat PR ⊢
      have HPA := Lib.hid hpa
      have hp0 := PR.out.2.1
      have hp1 := PR.out.2.2
      clear hsgv hsgr hpa PL
      go_wp2_with fail
      refine (len_any L3.out.disk).mono ?_
      rintro e wq ⟨rfl, rfl⟩
      go_wp2_with fail
      refine (SG.out w3).mono ?_
      rintro e w4 ⟨rfl, hb4⟩
      rw [hfst]
      clear hfst
      have B4 : Hid (Below w.heap.size w w4) := Lib.hid (B3.out.trans (hb4.mono B3.out.size))
      have L4 := Lib.hid (H.out.below B4.out)
      have SL4 := Lib.hid (SL.out.below (B23.out.trans (hb4.mono B23.out.size)))
      have ZA4 : Hid (w4.heap[w.heap.size]? = some (.cells #[.int .u64 sq, .int .u32 l.epoch, .slice A p.length c] 40 (0, 0))) := Lib.hid (((B23.out.trans (hb4.mono B23.out.size)).block _ (block_lt ZA2.out)).trans ZA2.out)
      have hq6 : w.heap.size < w4.heap.size := block_lt ZA4.out
      obtain ⟨b6, o6, hA6, hb6⟩ := SL4.out.some_of (by rw [HML.out]; exact hm0)
      subst hA6
      have hNF : Hid (∀ k, w.heap.size ≤ k → ¬ F k) := Lib.hid (fun k hk hF => by have := H.out.disk.lt k hF; omega)
      have HB6 : Hid (w.heap.size ≤ b6) := Lib.hid (Nat.le_trans ZB.out.size (HOB.out b6 rfl))
      have W1 : IntKind.i64.wrap (fst + pa) = fst + pa := by rw [IntKind.wrap_i64]; omega
      have HPD : Hid (d.pd.length + 12 < 1000000) := Lib.hid hn
      go_wp2_with fail
      go_loopg [58] m (fun k i wr => ∃ j : Nat, j + k = m ∧ i = .int .i64 j ∧ AppRel w4 g d F (l.rcd p).made (fst + pa) j wr)
      case atStart => exact ⟨0, Nat.zero_add _, rfl, AppRel.start L4.out.disk L4.out.byt⟩
      case round =>
        obtain ⟨j, hj, rfl, dj, Fj, r1, r2, r3, r4, r5, r6, r7, r8⟩ := hrel
        have R1 := Lib.hid r1
        have R2 := Lib.hid r2
        have R3 := Lib.hid r3
        have R5 := Lib.hid r5
        have RD := Lib.hid r6
        have RK := Lib.hid r7
        have R8 := Lib.hid r8
        have hwr := r7.size
        clear r1 r2 r3 r5 r6 r7 r8 c0
        have LH : Hid (wr.heap[lb]? = some (.cells (lcells g l) 87 (0, 0))) := Lib.hid ((RK.out.block lb (block_lt L4.out.head) L4.out.nf).trans L4.out.head)
        by_cases hlt : j < m
        · have hjm : j < (l.rcd p).made.length := by rw [HML.out]; exact hlt
          have hs : (l.rcd p).made[j]? = some (l.rcd p).made[j] := List.getElem?_eq_getElem hjm
          have hdr : (l.rcd p).made.drop j = (l.rcd p).made[j] :: (l.rcd p).made.drop (j + 1) := List.drop_eq_getElem_cons hjm
          have h64 := HOK.out.len _ (List.getElem_mem hjm)
          have hsm := HOK.out.small _ (List.getElem_mem hjm)
          have HR : Hid (wr.rangeAt b6 (o6 + j * 64) (bv (l.rcd p).made[j])) := Lib.hid (fun q v hv =>
            (World.cell?_of_block (a := ⟨b6, o6 + j * 64 + q, none⟩) (RK.out.block b6 hb6 (hNF.out b6 HB6.out))).trans (SL4.out.range hs q v hv))
          rw [hdr] at R1 R2
          have HZ : Hid ((Try.prog.info? 77).map (·.size) = some (bv (l.rcd p).made[j]).length) := Lib.hid (by rw [secSize, bv_length, h64])
          have Z1 := Lib.hid (sec_toArray h64)
          have Z2 : Hid ((bv noSec).toArray.size = (bv (l.rcd p).made[j]).toArray.size) := Lib.hid (by simp [bv, h64, noSec])
          have Z3 := Lib.hid (sec_one (l.rcd p).made[j])
          have H64 := Lib.hid h64
          have HSM := Lib.hid hsm
          have K2 := Lib.hid (heap_alloc_at wr (.cells (bv noSec).toArray 77))
          have K3 := Lib.hid (setRow_at (bv (l.rcd p).made[j]).toArray K2.out)
          have BW : Hid (Below wr.heap.size wr ((wr.alloc (.cells (bv noSec).toArray 77)).setRow wr.heap.size (bv (l.rcd p).made[j]).toArray)) := Lib.hid (below_setRow ((Below.refl _ _).alloc (Nat.le_refl _) _) (Nat.le_refl _) _)
          clear hs hdr h64 hsm
          generalize (l.rcd p).made[j] = s at *
          go_upto_region 12 with (first
            | refine wpList_load_mid rfl 77 (.tmp 61) rfl b6 (o6 + j * 64) rfl (bv s) _ HR.out secUnder rfl HZ.out ?_
            | refine wpList_alloc_as rfl 77 rfl (bv noSec).toArray secZero ?_
            | refine wpList_store_block rfl 77 (.tmp 15) (.tmp 62) rfl wr.heap.size (bv s).toArray rfl rfl (bv noSec).toArray 77 K2.out Z1.out Z2.out Z3.out ?_)
          obtain ⟨w5, hw5⟩ : ∃ w5, (wr.alloc (.cells (bv noSec).toArray 77)).setRow wr.heap.size (bv s).toArray = w5 := ⟨_, rfl⟩
          rw [hw5] at K3 BW ⊢
          clear hw5 K2
          have HD5 : Hid (IsDisk w5.drew g dj Fj) := Lib.hid ((RD.out.below BW.out).below (Fg.below_dr (Below.refl _ _)))
          have WR := Lib.hid (write_any HD5.out (fst + pa + j) s H64.out (by have := HPD.out; omega))
          have RK5 : Hid (Keep F w4 w5.drew) := Lib.hid (RK.out.trans (Keep.of_new (S := F) (Fg.below_dr BW.out)) (fun i hi hF => hF))
          have x0 : w5.cell? ⟨lb, 0, none⟩ = some (.pointer (some ⟨g, 0, none⟩)) := (BW.out.cell (p := ⟨lb, 0, none⟩) (block_lt LH.out)).trans (cell_of_block LH.out 0)
          have x1 : w5.rangeAt wr.heap.size 0 (bv s) := fun q v hv => by rw [Nat.zero_add, cell_of_block K3.out, List.getElem?_toArray]; exact hv
          have hU : Try.prog.underlying 77 = some (.array 64 5) := secUnder
          have NLB : Hid (¬ Fj lb) := Lib.hid (fun hk => (R8.out lb hk).elim L4.out.nf (fun hk => absurd (block_lt L4.out.head) (Nat.not_lt.2 hk)))
          have NWR : Hid (¬ Fj wr.heap.size) := Lib.hid (fun hk => absurd (RD.out.lt _ hk) (Nat.lt_irrefl _))
          have LB5 : Hid (lb < w5.drew.heap.size) := Lib.hid (Nat.lt_of_lt_of_le (block_lt LH.out) BW.out.size)
          have WR5 : Hid (wr.heap.size < w5.drew.heap.size) := Lib.hid (block_lt K3.out)
          have hZ1 : (Try.prog.info? 77).map (·.size) = some (bv s).length := HZ.out
          have W2 : IntKind.i64.wrap (fst + pa + j) = fst + pa + j := by rw [IntKind.wrap_i64]; omega
          go_region_held3 (fun w' => w'.cell? ⟨lb, 0, none⟩ = some (.pointer (some ⟨g, 0, none⟩)) ∧ w'.rangeAt wr.heap.size 0 (bv s)) (first | exact ⟨x0, x1⟩ | exact QS.out)
            ((go_at_call 39; refine WR.out.mono ?_; rintro e w7 ⟨rfl, F7, h71, h72, h73⟩; have D7 := Lib.hid h71; have K7 := Lib.hid h72; have N7 := Lib.hid h73; clear h71 h72 h73
              have QS := Lib.hid (And.intro ((K7.out.cell (p := ⟨lb, 0, none⟩) LB5.out NLB.out).trans x0) (fun q v hv => (K7.out.cell (p := ⟨wr.heap.size, 0 + q, none⟩) WR5.out NWR.out).trans (x1 q v hv)))))
          clear x0 x1 hU hZ1
          have KF : Hid (Keep F w4 w7) := Lib.hid (RK5.out.trans K7.out (fun i hi hF => (R8.out i hF).elim id (fun h => absurd hi (Nat.not_lt.2 h))))
          have NF7 : Hid (∀ k, F7 k → F k ∨ w4.heap.size ≤ k) := Lib.hid (fun k hk => (N7.out k hk).elim (R8.out k) (fun h => .inr (Nat.le_trans (Nat.le_trans hwr BW.out.size) h)))
          have BY7 : Hid (Byt (dj.put (fst + pa + j) s)) := Lib.hid (R5.out.put _ HSM.out)
          have ST7 : Hid ((dj.put (fst + pa + j) s).st = d.st) := Lib.hid ((put_st _ _ _).trans R3.out)
          have PD7 := Lib.hid (put_pd dj (fst + pa + j) s)
          by_cases he : dj.putE (fst + pa + j) = 0
          · rw [putAll, if_pos he] at R1
            rw [putAllE, if_pos he] at R2
            rw [he]
            clear he
            go_wp2_with fail
            go_roundg (gk - 1)
            case measure => omega
            case rel =>
              refine ⟨j + 1, by omega, by go_num, dj.put (fst + pa + j) s, F7, ?_, ?_, ST7.out, by have := PD7.out; omega, BY7.out, D7.out, KF.out, NF7.out⟩
              · rw [R1.out]; congr 1; omega
              · rw [R2.out]; congr 1; omega
          · rw [putAll, if_neg he] at R1
            rw [putAllE, if_neg he] at R2
            have heb : (dj.putE (fst + pa + j) == 0) = false := beq_eq_false_iff_ne.2 he
            have HR2 : Hid (AppE w lb g l d F p (.returned (.tuple #[.int .u64 0, .int .i64 (dj.putE (fst + pa + j))])) w7) := Lib.hid (by
              have e1 : l.appE d p = dj.putE (fst + pa + j) := by rw [hE.out.1, hat.out]; exact R2.out
              have e2 : l.appD d p = dj.put (fst + pa + j) s := by rw [hE.out.2, hat.out]; exact R1.out
              have e3 : l.appL d p = l := if_neg (by rw [e1]; exact he)
              have e4 : l.appN d p = 0 := if_neg (by rw [e1]; exact he)
              refine ⟨F7, by rw [e1, e4], ?_, (Keep.of_new (S := F) B4.out).trans KF.out (fun i _ h => h) |>.mono (fun i _ h => .inl h), fun k hk => (NF7.out k hk).imp id (Nat.le_trans B4.out.size)⟩
              rw [e2, e3]
              exact ⟨D7.out, (KF.out.block lb (block_lt L4.out.head) L4.out.nf).trans L4.out.head, fun hk => (NF7.out lb hk).elim L4.out.nf (fun hk => absurd (block_lt L4.out.head) (Nat.not_lt.2 hk)), by rw [ST7.out]; exact L4.out.ok, BY7.out⟩)
            clear he
            go_wp2_with fail
            exact bodyPost_ret (v := .tuple #[.int .u64 0, .int .i64 (dj.putE (fst + pa + j))]) (by simp [results, Try.results12, go_sem]) rfl HR2.out
        · obtain rfl : j = m := by omega
          have k0 := cell_of_block LH.out 0
          have k2 := cell_of_block LH.out 2
          have k4 := cell_of_block LH.out 4
          have k5 := cell_of_block LH.out 5
          have f2 := free_of_block LH.out 2
          have f4 := free_of_block LH.out 4
          have f5 := free_of_block LH.out 5
          simp only [lcells] at k0 k2 k4 k5
          have W3 : IntKind.i64.wrap (pa + j) = pa + j := by rw [IntKind.wrap_i64]; omega
          have ZR : Hid (wr.heap[w.heap.size]? = some (.cells #[.int .u64 sq, .int .u32 l.epoch, .slice A p.length c] 40 (0, 0))) := Lib.hid ((RK.out.block _ (block_lt ZA4.out) (hNF.out _ (Nat.le_refl _))).trans ZA4.out)
          have NLW : Hid (lb < w.heap.size) := Lib.hid HLB.out
          have kz := cell_of_block ZR.out 0
          have HR3 : Hid (AppE w lb g l d F p (.returned (.tuple #[.int .u64 sq, .int .i64 0])) (((wr.setCell ⟨lb, 4, none⟩ (.int .i64 (l.placeSeg d.st.length j))).setCell ⟨lb, 5, none⟩ (.int .i64 (pa + j))).setCell ⟨lb, 2, none⟩ (.int .u64 (IntKind.u64.wrap (l.next + 1))))) := Lib.hid (by
            have hdrop : (l.rcd p).made.drop j = [] := List.drop_eq_nil_of_le (by rw [HML.out]; omega)
            rw [hdrop] at R1 R2
            have e1 : l.appE d p = 0 := by rw [hE.out.1, hat.out]; exact R2.out
            have e2 : l.appD d p = dj := by rw [hE.out.2, hat.out]; exact R1.out
            have e3 : l.appL d p = ⟨l.epoch, (l.next + 1) % 18446744073709551616, l.start, l.placeSeg d.st.length j, pa + j⟩ := by
              unfold Lg.appL
              rw [if_pos e1, HM.out, HPA.out]
            have e4 : l.appN d p = sq := by
              rw [Lg.appN, if_pos e1, ← HSQ.out]
              exact (if_neg HNX.out).symm
            have NLB : ¬ Fj lb := fun hk => (R8.out lb hk).elim L4.out.nf (fun hk => absurd (block_lt L4.out.head) (Nat.not_lt.2 hk))
            have KS := keep_set3l (S := fun k => k = lb) (y2 := .int .u64 (IntKind.u64.wrap (l.next + 1))) (y4 := .int .i64 (l.placeSeg d.st.length j)) (y5 := .int .i64 (pa + j)) (Keep.refl _ wr) rfl
            have hok := appL_ok H.out.ok p
            refine ⟨Fj, by rw [e1, e4], ?_, (((Keep.of_new (S := F) B4.out).trans RK.out (fun i _ h => h)).mono (fun i _ h => .inl h)).trans KS (fun i _ h => .inr h), fun k hk => (R8.out k hk).imp id (Nat.le_trans B4.out.size)⟩
            rw [e3] at hok
            rw [e2, e3]
            refine ⟨RD.out.keep KS (fun k hk he => NLB (he ▸ hk)), ?_, NLB, by rw [R3.out]; exact hok, R5.out⟩
            have hh := set3l (y2 := .int .u64 (IntKind.u64.wrap (l.next + 1))) (y4 := .int .i64 (l.placeSeg d.st.length j)) (y5 := .int .i64 (pa + j)) LH.out
            exact hh)
          go_wp2_with fail
          exact bodyPost_ret (v := .tuple #[.int .u64 sq, .int .i64 0]) (by simp [results, Try.results12, go_sem]) rfl HR3.out
    · rw [if_neg hok, if_neg hok] at hE
      rw [show l.placeOk d.st.length m = false by simpa using hok]
      clear hok hpl3
      go_wp2_with fail
      exact bodyPost_ret (v := .tuple #[.int .u64 0, .int .i64 101]) (by simp [results, Try.results12, go_sem]) rfl (AppE.same H.out B3.out hE.out.1 (by decide) hE.out.2)
end Go.Proofs.Ytogkibikghbghaa.Wal
