/- Contract of frame's Open. Conditions: none beyond each lemma's own hypotheses. -/
import Derived.Test.YtogkibikghbghaaFgFrameMake
set_option linter.unusedVariables false
set_option linter.unusedSimpArgs false
namespace Go.Proofs.Ytogkibikghbghaa.Frame
open Go.RowKit Go.Proofs.Ytogkibikghbghaa.Fg Go.Proofs.Ytogkibikghbghaa.Crc Go.Proofs.Ytogkibikghbghaa.Disk

/-- A slice of sectors that came from anywhere. -/
structure SecsAt (w : World) (A : Option Addr) (c : Nat) (rows : List (List Int)) : Prop where
  src : Fg.Src w A rows.length c (sv rows).flatten
  form : rows ≠ [] → ∀ ad, A = some ad → ∃ b o, ad = ⟨b, o, none⟩
  ok : Secs rows
theorem SecsAt.same {w w' : World} {A : Option Addr} {c : Nat} {rows : List (List Int)} (h : SecsAt w A c rows) (hb : ∀ k, k < w.heap.size → w'.heap[k]? = w.heap[k]?) : SecsAt w' A c rows :=
  ⟨h.src.same (fun ad had hne => hb _ (h.src.lt had hne)), h.form, h.ok⟩
theorem SecsAt.below {w w' : World} {A : Option Addr} {c : Nat} {rows : List (List Int)} (h : SecsAt w A c rows) (hb : Below w.heap.size w w') : SecsAt w' A c rows := h.same fun k hk => hb.block k hk
theorem SecsAt.range {w : World} {b o c : Nat} {rows : List (List Int)} (h : SecsAt w (some ⟨b, o, none⟩) c rows) {j : Nat} {s : List Int} (hs : rows[j]? = some s) : w.rangeAt b (o + j * 64) (bv s) := by
  intro i v hv
  have hj := (List.getElem?_eq_some_iff.1 hs).1
  have h64 := h.ok.len s (List.mem_of_getElem? hs)
  have hi : i < 64 := by
    have := (List.getElem?_eq_some_iff.1 hv).1
    rw [bv_length, h64] at this
    exact this
  have := h.src.cells ⟨b, o, none⟩ rfl (j * 64 + i) v (by
    rw [flat_get (sv_len h.ok.len) j i hi]
    simp only [sv, List.getElem?_map, hs, Option.map_some, Option.bind_some]
    exact hv)
  rw [Addr.add_lit] at this
  rw [show o + j * 64 + i = o + (j * 64 + i) by omega]
  exact this
theorem SecsAt.some_of {w : World} {A : Option Addr} {c : Nat} {rows : List (List Int)} (h : SecsAt w A c rows) (hn : 0 < rows.length) : ∃ b o, A = some ⟨b, o, none⟩ ∧ b < w.heap.size := by
  cases A with
  | none => have := (h.src.nil rfl).1; omega
  | some ad =>
    obtain ⟨b, o, rfl⟩ := h.form (fun e => by rw [e] at hn; exact absurd hn (by decide)) ad rfl
    refine ⟨b, o, rfl, ?_⟩
    have hne : (sv rows).flatten ≠ [] := fun e => by
      have := flat_len (sv_len h.ok.len)
      rw [e] at this
      simp [sv] at this
      omega
    exact h.src.lt rfl hne
theorem sv_flat (rows : List (List Int)) : (sv rows).flatten = bv rows.flatten := by
  show (rows.map bv).flatten = rows.flatten.map _
  rw [List.map_flatten]
  rfl
/-- Bytes at the head of the first sector. -/
theorem SecsAt.head {w : World} {b o c : Nat} {rows : List (List Int)} (h : SecsAt w (some ⟨b, o, none⟩) c rows) (hn : 0 < rows.length) : Fg.Src w (some ⟨b, o, none⟩) 2 64 (bv (rows.flatten.take 2)) := by
  have hb := h.src
  refine ⟨(fun h => by cases h), by decide, by simp [maxLen], fun ad had j u hu => ?_⟩
  refine hb.cells ad had j u ?_
  rw [sv_flat]
  simp only [bv, List.getElem?_map] at hu ⊢
  have hj : j < 2 := by
    rcases Nat.lt_or_ge j 2 with h | h
    · exact h
    · rw [List.getElem?_eq_none (by rw [List.length_take]; omega)] at hu; cases hu
  rw [List.getElem?_take_of_lt hj] at hu
  exact hu

/-- The end of bytes that are read. -/
theorem src_tail {w : World} {ad : Addr} {c k n : Nat} {l : List Int} (h : Fg.Src w (some ad) l.length c (bv l)) (hn : k + n = l.length) : Fg.Src w (if c = k then some ad else some (ad.add k)) n (c - k) (bv (l.drop k)) := by
  have hc := h.cap
  by_cases e : c = k
  · rw [if_pos e]
    have hn0 : n = 0 := by omega
    have hd : l.drop k = [] := List.drop_of_length_le (by omega)
    rw [hd]
    exact ⟨(fun h => by cases h), by omega, by have := h.most; omega, fun a _ j u hu => by simp [bv] at hu⟩
  · rw [if_neg e]
    have := src_drop h (by omega : k ≤ l.length)
    rwa [show l.length - k = n by omega] at this
theorem value_bw (l : List Int) (hb : Small l) (n : Nat) (hl : l.length = n) (h8 : n ≤ 8) (A : Option Addr) (c : Nat) (w : World) (hs : Fg.Src w A n c (bv l)) :
    Calls Try.prog 78 #[.slice A n c] w fun e w' => e = .returned (.int .u64 (val l)) ∧ w' = w := by
  subst hl
  exact value_any l hb h8 A c w hs
theorem open_bw (l : List Int) (hb : Small l) (n : Nat) (hl : l.length = n) (hn : n ≤ 100000) (A : Option Addr) (c : Nat) (w : World) (hs : Fg.Src w A n c (bv l)) :
    Calls Try.prog 79 #[.slice A n c] w (OpenMade l w) := by
  subst hl
  exact Crc.open_any l hb hn A c w hs
theorem contains_bw (l : List Int) (n : Nat) (hl : l.length = n) (hn : n ≤ 140737488355328) (A : Option Addr) (c : Nat) (w : World) (hs : Fg.Src w A n c (bv l)) :
    Calls Try.prog 80 #[.slice A n c, .func (.func 81) #[] #[]] w fun e w' => e = .returned (.bool (!(allNil l))) ∧ w = w' := by
  subst hl
  exact contains_any l hn A c w hs

/-- Results, the first of which lies in a block. -/
theorem res_cell_tmp2 {P : Program} {fn : Func} {p q q2 : Tmp} {ty : TypeId} (h : fn.results = #[.cell p ty, .tmp q, .tmp q2]) (tmps : Array Value) (w : World) (g : Nat) (t : TypeId) (cs : Array Value) (fr : Nat × Nat) (d : TypeDesc) (v v2 : Value)
    (hp : tmps.getD p undef = .pointer (some ⟨g, 0, none⟩)) (hq : tmps.getD q undef = v) (hq2 : tmps.getD q2 undef = v2) (hg : w.heap[g]? = some (.cells cs t fr))
    (hu : P.underlying ty = some d) (hd : d.isRow = true) (hi : (P.info? ty).map (·.size) = some cs.size) : (results fn tmps).run P w = .ok (.tuple #[.agg cs, v, v2]) w := by
  have hp' : tmps[p]?.getD undef = .pointer (some ⟨g, 0, none⟩) := by simpa using hp
  have hq' : tmps[q]?.getD undef = v := by simpa using hq
  have hq2' : tmps[q2]?.getD undef = v2 := by simpa using hq2
  have hl := load_block hg d hu hd hi
  simp [results, h, hp', hq', hq2', asAddr, hl]

/-- What an Open leaves. -/
def OpenE (l : List (List Int)) (w : World) (e : Ending) (w' : World) : Prop :=
  ∃ A c, e = .returned (.tuple #[recv A c (openedR l), .int .i64 (openedN l), .bool (decide (isRec l))]) ∧ Fg.Src w' A (openedR l).pay.length c (bv (openedR l).pay) ∧ Below w.heap.size w w'
/-- .. and the bytes lie in a block that is new. -/
def OpenF (l : List (List Int)) (w : World) (e : Ending) (w' : World) : Prop :=
  ∃ A c, e = .returned (.tuple #[recv A c (openedR l), .int .i64 (openedN l), .bool (decide (isRec l))]) ∧ Fg.Src w' A (openedR l).pay.length c (bv (openedR l).pay) ∧ Below w.heap.size w w' ∧ ∀ ad, A = some ad → w.heap.size < ad.block
theorem OpenE.no {l : List (List Int)} {w w' : World} (h : ¬ isRec l) (hb : Below w.heap.size w w') : OpenE l w (.returned (.tuple #[.agg #[.int .u64 0, .int .u32 0, .slice none 0 0], .int .i64 0, .bool false])) w' := by
  refine ⟨none, 0, ?_, ?_, hb⟩
  · rw [openedR, openedN, if_neg h, if_neg h, decide_eq_false h]; rfl
  · rw [openedR, if_neg h]
    exact ⟨fun _ => ⟨rfl, rfl⟩, Nat.le_refl _, by simp [maxLen], fun _ h => by cases h⟩
theorem OpenF.no {l : List (List Int)} {w w' : World} (h : ¬ isRec l) (hb : Below w.heap.size w w') : OpenF l w (.returned (.tuple #[.agg #[.int .u64 0, .int .u32 0, .slice none 0 0], .int .i64 0, .bool false])) w' := by
  refine ⟨none, 0, ?_, ?_, hb, fun _ h => by cases h⟩
  · rw [openedR, openedN, if_neg h, if_neg h, decide_eq_false h]; rfl
  · rw [openedR, if_neg h]
    exact ⟨fun _ => ⟨rfl, rfl⟩, Nat.le_refl _, by simp [maxLen], fun _ h => by cases h⟩
/-- The bytes of the first ones of the sectors. -/
theorem take_step {l : List (List Int)} {j : Nat} (hj : j < l.length) : (l.take (j + 1)).flatten = (l.take j).flatten ++ l[j] := by
  rw [List.take_add_one, List.getElem?_eq_getElem hj, List.flatten_append]; simp
theorem set3 {w : World} {b : Nat} {x0 x1 x2 y0 y1 y2 : Value} {t : TypeId} {fr : Nat × Nat} (h : w.heap[b]? = some (.cells #[x0, x1, x2] t fr)) :
    (((w.setCell ⟨b, 0, none⟩ y0).setCell ⟨b, 1, none⟩ y1).setCell ⟨b, 2, none⟩ y2).heap[b]? = some (.cells #[y0, y1, y2] t fr) :=
  hset_at _ _ 2 _ (hset_at _ _ 1 _ (hset_at _ _ 0 _ h))
theorem below_set3 {W w : World} {y0 y1 y2 : Value} (h : Below W.heap.size W w) : Below W.heap.size W (((w.setCell ⟨W.heap.size, 0, none⟩ y0).setCell ⟨W.heap.size, 1, none⟩ y1).setCell ⟨W.heap.size, 2, none⟩ y2) :=
  ((h.setCell (p := ⟨W.heap.size, 0, none⟩) (Nat.le_refl _) _).setCell (p := ⟨W.heap.size, 1, none⟩) (Nat.le_refl _) _).setCell (p := ⟨W.heap.size, 2, none⟩) (Nat.le_refl _) _
/-- How far the record is laid. -/
def OpW (w2 : World) : World := w2.drew.alloc (.cells #[.int .u64 0, .int .u32 0, .slice none 0 0] 40)
def OpZ (w2 : World) (V1 V2 : Int) (s : Value) : World := (((OpW w2).setCell ⟨w2.heap.size, 0, none⟩ (.int .u64 V1)).setCell ⟨w2.heap.size, 1, none⟩ (.int .u32 V2)).setCell ⟨w2.heap.size, 2, none⟩ s
def OpI (w2 : World) (V1 V2 : Int) (s : Value) (d : Nat → Bool) (w : World) : Prop :=
  (d 10 = false ∧ d 11 = false ∧ w = w2.drew) ∨ (d 10 = true ∧ d 11 = false ∧ w = OpW w2) ∨ (d 10 = true ∧ d 11 = true ∧ w = OpZ w2 V1 V2 s)
section
variable {w2 w : World} {V1 V2 : Int} {s : Value} {d : Nat → Bool}
theorem OpI.same (h : OpI w2 V1 V2 s d w) : ∀ k, k < w2.heap.size → w.heap[k]? = w2.heap[k]? := by
  intro k hk
  have e : (OpW w2).heap[k]? = w2.heap[k]? := heap_alloc_old w2.drew _ hk
  rcases h with ⟨-, -, rfl⟩ | ⟨-, -, rfl⟩ | ⟨-, -, rfl⟩
  · rfl
  · exact e
  · unfold OpZ
    rw [hset_other _ _ _ (by show k ≠ w2.heap.size; omega), hset_other _ _ _ (by show k ≠ w2.heap.size; omega), hset_other _ _ _ (by show k ≠ w2.heap.size; omega), e]
theorem OpI.pass {k : Nat} (h : OpI w2 V1 V2 s d w) (h1 : k ≠ 10) (h2 : k ≠ 11) : OpI w2 V1 V2 s (fun j => if j = k then true else d j) w := by
  have e1 : (fun j => if j = k then true else d j) 10 = d 10 := if_neg (Ne.symm h1)
  have e2 : (fun j => if j = k then true else d j) 11 = d 11 := if_neg (Ne.symm h2)
  unfold OpI
  rw [e1, e2]
  exact h
theorem OpI.at10 (h : OpI w2 V1 V2 s d w) (hd : d 10 = false) : d 11 = false ∧ w = w2.drew := by
  rcases h with ⟨-, h1, h2⟩ | ⟨h1, -⟩ | ⟨h1, -⟩
  · exact ⟨h1, h2⟩
  · rw [hd] at h1; cases h1
  · rw [hd] at h1; cases h1
theorem OpI.did10 (h : d 11 = false) : OpI w2 V1 V2 s (fun j => if j = 10 then true else d j) (OpW w2) := .inr (.inl ⟨rfl, h, rfl⟩)
theorem OpI.at11 (h : OpI w2 V1 V2 s d w) (hd : d 10 = true) (h11 : d 11 = false) : w = OpW w2 := by
  rcases h with ⟨h1, -⟩ | ⟨-, -, h2⟩ | ⟨-, h1, -⟩
  · rw [hd] at h1; cases h1
  · exact h2
  · rw [h11] at h1; cases h1
theorem OpI.did11 (h : d 10 = true) : OpI w2 V1 V2 s (fun j => if j = 11 then true else d j) (OpZ w2 V1 V2 s) := .inr (.inr ⟨h, rfl, rfl⟩)
theorem OpI.fin (h : OpI w2 V1 V2 s d w) (h11 : d 11 = true) : w = OpZ w2 V1 V2 s := by
  rcases h with ⟨-, h1, -⟩ | ⟨-, h1, -⟩ | ⟨-, -, h1⟩
  · rw [h11] at h1; cases h1
  · rw [h11] at h1; cases h1
  · exact h1
end
theorem opW_at (w2 : World) : (OpW w2).heap[w2.heap.size]? = some (.cells #[.int .u64 0, .int .u32 0, .slice none 0 0] 40 (0, 0)) := heap_alloc_at w2.drew _
theorem opZ_at (w2 : World) (V1 V2 : Int) (s : Value) : (OpZ w2 V1 V2 s).heap[w2.heap.size]? = some (.cells #[.int .u64 V1, .int .u32 V2, s] 40 (0, 0)) := set3 (heap_alloc_at w2.drew _)
theorem opZ_below (w2 : World) (V1 V2 : Int) (s : Value) : Below w2.heap.size w2 (OpZ w2 V1 V2 s) := below_set3 ((Fg.below_dr (Below.refl _ _)).alloc (Nat.le_refl _) _)
theorem recInfo : (Try.prog.info? 40).map (·.size) = some 3 := by kernel_rfl

set_option maxRecDepth 100000 in
set_option maxHeartbeats 4000000 in
theorem fopen_new (l : List (List Int)) (A : Option Addr) (c : Nat) (w : World) (hs : SecsAt w A c l) (hl : l.length ≤ 1000000) :
    Calls Try.prog 70 #[.slice A l.length c] w (OpenF l w) := by
  have hcap := hs.src.cap
  by_cases h0 : l.length = 0
  · have HN : Hid (¬ isRec l) := Lib.hid (fun h => by have := h.1; omega)
    have HB : Hid (Below w.heap.size w (w.alloc (.cells #[.int .u64 0, .int .u32 0, .slice none 0 0] 40))) := Lib.hid ((Below.refl _ _).alloc (Nat.le_refl _) _)
    rw [h0]
    go_enter Try.func70, Try.ntmps70
    go_wp2_with fail
    exact bodyPost_ret (v := .tuple #[.agg #[.int .u64 0, .int .u32 0, .slice none 0 0], .int .i64 0, .bool false]) (res_cell_tmp2 Try.results70 _ _ w.heap.size 40 _ (0, 0) _ _ _ rfl rfl rfl (heap_alloc_at w _) Try.underlying40 rfl recInfo) rfl (OpenF.no HN.out HB.out)
  · obtain ⟨b, o, rfl, hb⟩ := hs.some_of (by omega)
    have HH := Lib.hid (fun w' h => (hs.below h).head (by omega) : ∀ w', Below w.heap.size w w' → _)
    have HS := Lib.hid hs
    have hl0 : 0 < (l.length : Int) := by omega
    have hfl := hs.ok.flat_small
    have h2 : (l.flatten.take 2).length = 2 := by
      have := flat_length hs.ok.len
      rw [List.length_take]; omega
    have hv2 : Small (l.flatten.take 2) := fun x hx => hfl x (List.mem_of_mem_take hx)
    have hvr := val_range 2 _ h2 hv2
    have hV : 0 ≤ saidSize l ∧ saidSize l < 65536 := hvr
    have VB := Lib.hid (fun w' h => value_bw (l.flatten.take 2) hv2 2 h2 (by decide) _ _ _ (HH.out w' h) : ∀ w', Below w.heap.size w w' → _)
    have hMr : 0 ≤ saidMany l ∧ saidMany l ≤ 12 := secs_range _
    have SZ := Lib.hid (fun w' => size_any (saidSize l) ⟨by omega, by omega⟩ w')
    have SM : Hid (secs (saidSize l) = saidMany l) := Lib.hid rfl
    have SV : Hid (val (l.flatten.take 2) = saidSize l) := Lib.hid rfl
    obtain ⟨hV0, hV1⟩ := hV
    obtain ⟨hM0, hM1⟩ := hMr
    have SK := Lib.hid (said_ok hs.ok)
    have II := Lib.hid (fun n m (h : Said l n m) => isRec_iff hs.ok h)
    have NO : Hid (¬ (0 < saidMany l ∧ saidMany l ≤ l.length) → ¬ isRec l) := Lib.hid (fun h h2 => h ⟨h2.2.1, h2.2.2.1⟩)
    have HB : Hid (Below w.heap.size w (w.alloc (.cells #[.int .u64 0, .int .u32 0, .slice none 0 0] 40))) := Lib.hid ((Below.refl _ _).alloc (Nat.le_refl _) _)
    have K1 : Hid ((w.alloc (.cells #[.int .u64 0, .int .u32 0, .slice none 0 0] 40)).heap[w.heap.size]? = some (.cells #[.int .u64 0, .int .u32 0, .slice none 0 0] 40 (0, 0))) := Lib.hid (heap_alloc_at w _)
    clear hs h2 hv2 hvr hfl
    go_enter Try.func70, Try.ntmps70
    go_wp2_with fail
    refine (VB.out _ HB.out).mono ?_
    rintro e w' ⟨rfl, rfl⟩
    generalize w.alloc (.cells #[.int .u64 0, .int .u32 0, .slice none 0 0] 40) = w1 at *
    rw [SV.out]
    clear HH VB SV
    generalize hVV : saidSize l = V at *
    go_wp2_with fail
    refine (SZ.out _).mono ?_
    rintro e w' ⟨rfl, rfl⟩
    rw [SM.out]
    clear SM SZ
    generalize hMM : saidMany l = M at *
    by_cases hm : 0 < M ∧ M ≤ l.length
    · obtain ⟨n, m, S⟩ := SK.out hm.1 hm.2
      have hVn : V = n := hVV.symm.trans S.size
      have hMm : M = m := hMM.symm.trans S.many
      subst hVn hMm
      have hm0 : 0 < (m : Int) := hm.1
      have hml : (m : Int) ≤ l.length := hm.2
      have hmc : (m : Int) ≤ c := by omega
      have hdl : decide (l.length < m) = false := decide_eq_false (by omega)
      have hmz : ((m : Int) == 0) = false := beq_eq_false_iff_ne.2 (by omega)
      have HSD := Lib.hid S
      have hn7 : (n : Int) ≤ 700 := by have := S.le; omega
      have hmn : 18 + n ≤ 64 * m := by have := S.m_eq; omega
      have HMN := Lib.hid hmn
      have HT := Lib.hid (fun j (hj : j < l.length) => take_step hj)
      clear hm S NO SK hVV hMM hV0 hV1 hM0 hmn
      go_wp2_with fail
      obtain ⟨B0, hB0⟩ : ∃ B0, w'.heap.size = B0 := ⟨_, rfl⟩
      have HB0 := Lib.hid hB0
      clear hB0
      go_loopg [7, 39] m (fun k v i wr => ∃ j : Nat, j + k = m ∧ i = .int .i64 j ∧ wr.ownsRow w'.heap.size 5 1 v (64 * j) (bv (l.take j).flatten) ∧ Below w'.heap.size w' wr)
      case atStart => exact ⟨0, Nat.zero_add _, rfl, World.ownsRow_nil _ _ _ _, Below.refl _ _⟩
      case round =>
        obtain ⟨j, hj, rfl, hown, hbel⟩ := hrel
        by_cases hlt : j < m
        · have hjl : j < l.length := by omega
          have hs : l[j]? = some l[j] := List.getElem?_eq_getElem hjl
          have hr : Hid (wr.rangeAt b (o + j * 64) (bv l[j])) := Lib.hid ((HS.out.below (HB.out.trans (hbel.mono HB.out.size))).range hs)
          have h64 := HS.out.ok.len _ (List.getElem_mem hjl)
          have hts := HT.out j hjl
          have hts2 : bv (l.take (j + 1)).flatten = bv (l.take j).flatten ++ bv l[j] := by rw [hts, bv_append]
          have HTS := Lib.hid hts2
          have HZ : Hid ((Try.prog.info? 77).map (·.size) = some (bv l[j]).length) := Lib.hid (by rw [secSize, bv_length, h64])
          have Z1 := Lib.hid (sec_toArray h64)
          have Z2 : Hid ((bv noSec).toArray.size = (bv l[j]).toArray.size) := Lib.hid (by simp [bv, h64, noSec])
          have Z3 := Lib.hid (sec_one l[j])
          have Z4 : Hid ((bv l[j]).length = 64 * 1) := Lib.hid (by rw [bv_length, h64])
          have K2 := Lib.hid (heap_alloc_at wr (.cells (bv noSec).toArray 77))
          have K3 := Lib.hid (setRow_at (bv l[j]).toArray K2.out)
          have B2 : Hid (Below wr.heap.size wr ((wr.alloc (.cells (bv noSec).toArray 77)).setRow wr.heap.size (bv l[j]).toArray)) := Lib.hid (below_setRow ((Below.refl _ _).alloc (Nat.le_refl _) _) (Nat.le_refl _) _)
          have HO := Lib.hid (own_same hown (fun k hk => B2.out.block k (hown.lt k hk).2))
          have HL := Lib.hid (fun k hk => (hown.lt k hk).1)
          have HBL := Lib.hid (hbel.trans (B2.out.mono hbel.size))
          obtain ⟨A7, c7, rfl, -⟩ := own_form hown
          clear hs hts hts2 h64 hown hbel
          generalize l[j] = s at *
          go_upto_region 11 with (first
            | refine wpList_load_mid rfl 77 (.tmp 41) rfl b (o + j * 64) rfl (bv s) _ hr.out secUnder rfl HZ.out ?_
            | refine wpList_alloc_as rfl 77 rfl (bv noSec).toArray secZero ?_
            | refine wpList_store_block rfl 77 (.tmp 9) (.tmp 42) rfl wr.heap.size (bv s).toArray rfl rfl (bv noSec).toArray 77 K2.out Z1.out Z2.out Z3.out ?_)
          obtain ⟨w9, hw9⟩ : ∃ w9, (wr.alloc (.cells (bv noSec).toArray 77)).setRow wr.heap.size (bv s).toArray = w9 := ⟨_, rfl⟩
          rw [hw9] at K3 B2 HO HBL ⊢
          clear hw9 K2
          have SR : Hid (Fg.Src w9 (some ⟨wr.heap.size, 0, none⟩) 64 64 (bv s)) := Lib.hid ⟨(fun h => by cases h), Nat.le_refl _, by simp [maxLen], fun ad had q u hu => by
            injection had with had
            subst had
            rw [Addr.add_lit, Nat.zero_add, cell_of_block K3.out, List.getElem?_toArray]; exact hu⟩
          go_wp2_with (at_builtin; refine wpList_append_any rfl (.tmp 43) (.tmp 44) 37 rfl w'.heap.size 5 (.int .u8 0) 1 1 Try.underlying37 info_u8 rfl (by decide) (by decide) (.slice A7 (64 * j) c7) (64 * j) _ rfl HO.out (some ⟨wr.heap.size, 0, none⟩) 64 64 (bv s) rfl SR.out ?h3 (bv_one s) ?h4 HBL.out.size ?h6)
          case h3 => have := Z4.out; omega
          case h4 => omega
          intro v' wv hown2 hgr2 _ _
          have HO2 := Lib.hid hown2
          have HB2 := Lib.hid (HBL.out.grown hgr2 HBL.out.size (fun k hk => HL.out k hk))
          clear hown2 hgr2
          go_wp2_with fail
          go_roundg (gk - 1)
          case measure => omega
          case rel => exact ⟨j + 1, by omega, by go_num, by rw [HTS.out, show 64 * (j + 1) = 64 * j + 64 by omega]; exact HO2.out, HB2.out⟩
        · obtain rfl : j = m := by omega
          have hbl := HMN.out
          obtain ⟨A7, c7, rfl, -⟩ := own_form hown
          obtain ⟨g7, rfl⟩ : ∃ g7, A7 = some ⟨g7, 0, none⟩ := by
            obtain ⟨A', c', hv, h1, h2, h3, h4⟩ := own_form hown
            injection hv with e1 e2 e3
            subst e1 e3
            cases A7 with
            | none => have := (h3 rfl).1; omega
            | some ad => obtain ⟨g, rfl, _⟩ := h4 ad rfl; exact ⟨g, rfl⟩
          have hfl : (l.take j).flatten = l.flatten.take (64 * j) := HSD.out.flat
          rw [hfl] at hown
          have hlen : (l.flatten.take (64 * j)).length = 64 * j := by rw [List.length_take]; have := HSD.out.long; omega
          have hsm : Small (l.flatten.take (64 * j)) := fun x hx => HS.out.ok.flat_small x (List.mem_of_mem_take hx)
          have hii := II.out n j HSD.out
          rw [show 18 + n = 14 + n + 4 by omega] at hii hbl
          have II2 := Lib.hid hii
          clear hii
          have SB := Lib.hid (Fg.Src.of_own hown)
          have hc7 : 64 * j ≤ c7 := SB.out.cap
          obtain ⟨BB, hBB⟩ : ∃ BB, l.flatten.take (64 * j) = BB := ⟨_, rfl⟩
          have HBB := Lib.hid hBB
          rw [hBB] at hlen hsm II2 SB
          have LB := Lib.hid hlen
          have SM := Lib.hid hsm
          have HBE := Lib.hid hbel
          have L1 : Hid ((BB.take (14 + n + 4)).length = 14 + n + 4) := Lib.hid (by rw [List.length_take, hlen]; omega)
          have L2 : Hid ((BB.drop (14 + n + 4)).length = 64 * j - (14 + n + 4)) := Lib.hid (by rw [List.length_drop, hlen])
          have S1 : Hid (Fg.Src wr (some ⟨g7, 0, none⟩) (14 + n + 4) c7 (bv (BB.take (14 + n + 4)))) := Lib.hid (by
            have h := SB.out
            rw [← hlen] at h
            exact src_take h (by omega))
          have S2 : Hid (Fg.Src wr (if c7 = 14 + n + 4 then some ⟨g7, 0, none⟩ else some ⟨g7, 14 + n + 4, none⟩) (64 * j - (14 + n + 4)) (c7 - (14 + n + 4)) (bv (BB.drop (14 + n + 4)))) := Lib.hid (by
            have h := SB.out
            rw [← hlen] at h
            have := src_tail (k := 14 + n + 4) (n := 64 * j - (14 + n + 4)) h (by omega)
            rwa [Addr.add_lit, Nat.zero_add] at this)
          have hcI : 14 + (n : Int) + 4 ≤ c7 := by omega
          have hcI2 : 14 + (n : Int) + 4 ≤ 64 * (j : Int) := by omega
          clear hown hbel hlen hsm hBB II hfl hbl HT hlt hj
          go_wp2_with fail
          refine (open_bw (BB.take (14 + n + 4)) (fun x hx => SM.out x (List.mem_of_mem_take hx)) _ L1.out (by omega) _ _ wr S1.out).mono ?_
          rintro e w2 ⟨A8, c8, rfl, ho8, hb8⟩
          have S2' := Lib.hid (S2.out.same (w' := w2) fun ad had hne => hb8.block _ (S2.out.lt had hne))
          have HB2 := Lib.hid (HB.out.trans ((HBE.out.trans (hb8.mono HBE.out.size)).mono HB.out.size))
          have K2 : Hid (w2.heap[w.heap.size]? = some (.cells #[.int .u64 0, .int .u32 0, .slice none 0 0] 40 (0, 0))) := Lib.hid ((hb8.block _ (Nat.lt_of_lt_of_le (block_lt K1.out) HBE.out.size)).trans ((HBE.out.block _ (block_lt K1.out)).trans K1.out))
          have HO8 := Lib.hid ho8
          obtain ⟨AN, hAN⟩ : ∃ AN, allNil (BB.drop (14 + n + 4)) = AN := ⟨_, rfl⟩
          obtain ⟨OK, hOK⟩ : ∃ OK, Crc.opens (BB.take (14 + n + 4)) = OK := ⟨_, rfl⟩
          have HAN := Lib.hid hAN
          have HOK := Lib.hid hOK
          simp only [hOK]
          clear hAN hOK ho8 hb8
          rcases Classical.em (c7 = 14 + n + 4) with hc | hc
          · subst hc
            simp only [if_true, Nat.sub_self] at S2'
            rw [show 64 * j - (14 + n + 4) = 0 by omega] at S2' L2
            go_wp2_with fail
            refine (contains_bw (BB.drop (14 + n + 4)) _ L2.out (by omega) _ _ w2 S2'.out).mono ?_
            rintro e w3 ⟨rfl, rfl⟩
            rw [HAN.out]
            by_cases hno : OK = false ∨ AN = false
            · have HN : Hid (¬ isRec l) := Lib.hid (fun h => by
                have h2 := (II2.out.1 h).1
                rw [HOK.out] at h2
                rcases hno with h3 | h3
                · rw [h3] at h2; exact absurd h2.1 (by decide)
                · have : allNil (BB.drop (14 + n + 4)) = true := by
                    rw [allNil, List.all_eq_true]
                    intro x hx
                    exact beq_iff_eq.2 (h2.2 x hx)
                  rw [HAN.out, h3] at this
                  exact absurd this (by decide))
              have k0 := cell_of_block K2.out 0
              have k1 := cell_of_block K2.out 1
              have k2 := cell_of_block K2.out 2
              have f0 := free_of_block K2.out 0
              have f1 := free_of_block K2.out 1
              have f2 := free_of_block K2.out 2
              clear S2'
              cases OK
              · cases AN
                · go_wp2_with fail
                  exact bodyPost_ret (v := .tuple #[.agg #[.int .u64 0, .int .u32 0, .slice none 0 0], .int .i64 0, .bool false]) (res_cell_tmp2 Try.results70 _ _ w.heap.size 40 _ (0, 0) _ _ _ rfl rfl rfl (set3 K2.out) Try.underlying40 rfl recInfo) rfl (OpenF.no HN.out (below_set3 HB2.out))
                · go_wp2_with fail
                  exact bodyPost_ret (v := .tuple #[.agg #[.int .u64 0, .int .u32 0, .slice none 0 0], .int .i64 0, .bool false]) (res_cell_tmp2 Try.results70 _ _ w.heap.size 40 _ (0, 0) _ _ _ rfl rfl rfl (set3 K2.out) Try.underlying40 rfl recInfo) rfl (OpenF.no HN.out (below_set3 HB2.out))
              · obtain rfl : AN = false := by simpa using hno
                go_wp2_with fail
                exact bodyPost_ret (v := .tuple #[.agg #[.int .u64 0, .int .u32 0, .slice none 0 0], .int .i64 0, .bool false]) (res_cell_tmp2 Try.results70 _ _ w.heap.size 40 _ (0, 0) _ _ _ rfl rfl rfl (set3 K2.out) Try.underlying40 rfl recInfo) rfl (OpenF.no HN.out (below_set3 HB2.out))
            · obtain ⟨rfl, rfl⟩ : OK = true ∧ AN = true := by
                cases OK <;> cases AN <;> simp at hno ⊢
              clear hno
              have HOL : Hid ((opened (BB.take (14 + n + 4))).length = 14 + n ∧ opened (BB.take (14 + n + 4)) = l.flatten.take (14 + n)) := Lib.hid (by
                have e1 : (BB.take (14 + n + 4)).length - 4 = 14 + n := by rw [L1.out]; omega
                have e2 : opened (BB.take (14 + n + 4)) = l.flatten.take (14 + n) := by
                  rw [opened, if_pos HOK.out, e1, ← HBB.out, List.take_take, List.take_take]
                  congr 1
                  have := HMN.out
                  omega
                exact ⟨by rw [e2, List.length_take]; have := HSD.out.long; have := HMN.out; omega, e2⟩)
              have hs8 := Fg.Src.of_own HO8.out
              rw [HOL.out.1, HOL.out.2] at hs8
              have ho9 := HO8.out
              rw [HOL.out.1] at ho9
              simp only [HOL.out.1]
              obtain ⟨g8, rfl⟩ : ∃ g8, A8 = some ⟨g8, 0, none⟩ := by
                obtain ⟨A', c', hv, h1, h2, h3, h4⟩ := own_form ho9
                injection hv with e1 e2 e3
                subst e1 e3
                cases A8 with
                | none => have := (h3 rfl).1; omega
                | some ad => obtain ⟨g, rfl, _⟩ := h4 ad rfl; exact ⟨g, rfl⟩
              have HO9 := Lib.hid ho9
              clear ho9
              have hc8 : 14 + n ≤ c8 := hs8.cap
              have hcI8 : 14 + (n : Int) ≤ c8 := by omega
              have hFs := HS.out.ok.flat_small
              have hFl : 14 + n ≤ l.flatten.length := by have := HSD.out.long; have := HMN.out; omega
              have hlt : (l.flatten.take (14 + n)).length = 14 + n := by rw [List.length_take]; omega
              have p1 : ((l.flatten.take (14 + n)).drop 2).take 8 = (l.flatten.drop 2).take 8 := by rw [List.drop_take, List.take_take, show min 8 (14 + n - 2) = 8 by omega]
              have p2 : ((l.flatten.take (14 + n)).drop 10).take 4 = (l.flatten.drop 10).take 4 := by rw [List.drop_take, List.take_take, show min 4 (14 + n - 10) = 4 by omega]
              have p3 : (l.flatten.take (14 + n)).drop 14 = (l.flatten.drop 14).take n := by rw [List.drop_take, show 14 + n - 14 = n by omega]
              have t1 : ((l.flatten.drop 2).take 8).length = 8 := by rw [List.length_take, List.length_drop]; omega
              have t2 : ((l.flatten.drop 10).take 4).length = 4 := by rw [List.length_take, List.length_drop]; omega
              have m1 : Small ((l.flatten.drop 2).take 8) := fun x hx => hFs x (List.mem_of_mem_drop (List.mem_of_mem_take hx))
              have m2 : Small ((l.flatten.drop 10).take 4) := fun x hx => hFs x (List.mem_of_mem_drop (List.mem_of_mem_take hx))
              have v1 := val_range 8 _ t1 m1
              have v2 := val_range 4 _ t2 m2
              obtain ⟨PP, hPP⟩ : ∃ PP, l.flatten.take (14 + n) = PP := ⟨_, rfl⟩
              rw [hPP] at hs8 hlt p1 p2 p3
              have s1 : Fg.Src w2 (some ⟨g8, 2, none⟩) 8 (c8 - 2) (bv ((l.flatten.drop 2).take 8)) := by
                have h := hs8
                rw [← hlt] at h
                have h2 := src_drop (l := PP) (n := 2) h (by omega)
                rw [← List.length_drop] at h2
                have h3 := src_take (n := 8) h2 (by rw [List.length_drop]; omega)
                rw [p1, Addr.add_lit, Nat.zero_add] at h3
                exact h3
              have s2 : Fg.Src w2 (some ⟨g8, 10, none⟩) 4 (c8 - 10) (bv ((l.flatten.drop 10).take 4)) := by
                have h := hs8
                rw [← hlt] at h
                have h2 := src_drop (l := PP) (n := 10) h (by omega)
                rw [← List.length_drop] at h2
                have h3 := src_take (n := 4) h2 (by rw [List.length_drop]; omega)
                rw [p2, Addr.add_lit, Nat.zero_add] at h3
                exact h3
              have s3 : Fg.Src w2 (if c8 = 14 then some ⟨g8, 0, none⟩ else some ⟨g8, 14, none⟩) n (c8 - 14) (bv ((l.flatten.drop 14).take n)) := by
                have h := hs8
                rw [← hlt] at h
                have h3 := src_tail (l := PP) (k := 14) (n := n) h (by omega)
                rw [p3, Addr.add_lit, Nat.zero_add] at h3
                exact h3
              have CV1 := Lib.hid (fun w' h => value_bw _ m1 8 t1 (by decide) _ _ w' (s1.same (fun ad had hne => h _ (s1.lt had hne))) : ∀ w', (∀ k, k < w2.heap.size → w'.heap[k]? = w2.heap[k]?) → _)
              have CV2 := Lib.hid (fun w' h => value_bw _ m2 4 t2 (by decide) _ _ w' (s2.same (fun ad had hne => h _ (s2.lt had hne))) : ∀ w', (∀ k, k < w2.heap.size → w'.heap[k]? = w2.heap[k]?) → _)
              obtain ⟨V1, hV1⟩ : ∃ V1, val ((l.flatten.drop 2).take 8) = V1 := ⟨_, rfl⟩
              obtain ⟨V2, hV2⟩ : ∃ V2, val ((l.flatten.drop 10).take 4) = V2 := ⟨_, rfl⟩
              obtain ⟨A3, hA3⟩ : ∃ A3, (if c8 = 14 then some (⟨g8, 0, none⟩ : Addr) else some ⟨g8, 14, none⟩) = A3 := ⟨_, rfl⟩
              rw [hA3] at s3
              rw [hV1] at v1 CV1
              rw [hV2] at v2 CV2
              have HV1 : Hid ((said l).seq = V1) := Lib.hid hV1
              have HV2 : Hid ((said l).epoch = V2) := Lib.hid hV2
              have HA3 := Lib.hid hA3
              have HAD : Hid (∀ ad, A3 = some ad → w.heap.size < ad.block) := Lib.hid (fun ad had => by
                have h8 : wr.heap.size ≤ g8 := (HO9.out.lt g8 rfl).1
                have hk := block_lt K1.out
                have hz := HBE.out.size
                rw [← hA3] at had
                split at had
                · injection had with had
                  subst had
                  show _ < g8
                  omega
                · injection had with had
                  subst had
                  show _ < g8
                  omega)
              have S3 := Lib.hid s3
              have EW : Hid (IntKind.u32.wrap V2 = V2) := Lib.hid (by rw [IntKind.wrap_u32]; omega)
              have hv10 : 0 ≤ V1 := v1.1
              have hc10 : (10 : Int) ≤ c8 := by omega
              have hcn2 : ¬ c8 = 2 := by omega
              have hcn10 : ¬ c8 = 10 := by omega
              have hc14 : (14 : Int) ≤ c8 := by omega
              have hn0 : (14 : Int) ≤ 14 + (n : Int) := by omega
              have hv20 : 0 ≤ V2 := v2.1
              have hv21 : V2 < 4294967296 := v2.2
              clear hs8 hFs hFl hlt p1 p2 p3 hPP t1 t2 m1 m2 v1 v2 s1 s2 s3 hV1 hV2 hA3 S1 S2 S2' L1 L2 hdl hmz hml hmc hl hcap h0 hl0
              go_upto_region 18 with fail
              -- region, again
              apply wp_region_words2 (fun _ _ => True) (OpI w2 V1 V2 (.slice A3 n (c8 - 14)))
                [isVal _, isVal _, isVal (.int .u64 V1), isVal _, isVal _, isVal (.int .u64 V2), isVal (.int .u32 V2), isVal _, isVal (.slice A3 n (c8 - 14)), isVal (.agg #[.int .u64 V1, .int .u32 V2, .slice A3 n (c8 - 14)]), isVal (.pointer (some ⟨w2.heap.size, 0, none⟩)), fun _ _ => True]
                [[], [0], [1], [], [3], [4], [5], [], [7], [2, 6, 8], [], [9, 10]] [0, 1, 2, 3, 4, 5, 6, 7, 8, 9, 10, 11] (by kernel_rfl) (by kernel_rfl) ?hFd ?standd ?hId ?stepsd ?find
              case hFd => intro v; simp [fillFrom, Act.put]; rfl
              case standd =>
                repeat' (first | exact trivial | (refine And.intro ?_ ?_))
                all_goals first | exact (fun _ _ _ _ _ _ => trivial) | (intro u w w' h _ _; exact h)
              case hId => exact .inl ⟨rfl, rfl, rfl⟩
              case stepsd =>
                refine And.intro ?_ ?_
                · intro d v w' hdk hI hdn hd K hK
                  simp only [allOf, word, List.getD_cons_zero, List.getD_cons_succ, isVal, and_true, true_and] at hd
                  have HK := Lib.hid hK
                  clear hK
                  go_simp
                  exact HK.out _ _ rfl (hI.pass (by decide) (by decide)) (trivial)
                refine And.intro ?_ ?_
                · intro d v w' hdk hI hdn hd K hK
                  simp only [allOf, word, List.getD_cons_zero, List.getD_cons_succ, isVal, and_true, true_and] at hd
                  try simp only [hd] at hK
                  have HK := Lib.hid hK
                  clear hK
                  go_simp
                  exact HK.out _ _ rfl (hI.pass (by decide) (by decide)) (trivial)
                refine And.intro ?_ ?_
                · intro d v w' hdk hI hdn hd K hK
                  simp only [allOf, word, List.getD_cons_zero, List.getD_cons_succ, isVal, and_true, true_and] at hd
                  try simp only [hd] at hK
                  have HK := Lib.hid hK
                  clear hK
                  go_simp
                  refine (CV1.out w' hI.same).mono ?_
                  rintro e w5 ⟨rfl, rfl⟩
                  exact HK.out _ _ rfl (hI.pass (by decide) (by decide)) trivial
                refine And.intro ?_ ?_
                · intro d v w' hdk hI hdn hd K hK
                  simp only [allOf, word, List.getD_cons_zero, List.getD_cons_succ, isVal, and_true, true_and] at hd
                  have HK := Lib.hid hK
                  clear hK
                  go_simp
                  exact HK.out _ _ rfl (hI.pass (by decide) (by decide)) (trivial)
                refine And.intro ?_ ?_
                · intro d v w' hdk hI hdn hd K hK
                  simp only [allOf, word, List.getD_cons_zero, List.getD_cons_succ, isVal, and_true, true_and] at hd
                  try simp only [hd] at hK
                  have HK := Lib.hid hK
                  clear hK
                  go_simp
                  exact HK.out _ _ rfl (hI.pass (by decide) (by decide)) (trivial)
                refine And.intro ?_ ?_
                · intro d v w' hdk hI hdn hd K hK
                  simp only [allOf, word, List.getD_cons_zero, List.getD_cons_succ, isVal, and_true, true_and] at hd
                  try simp only [hd] at hK
                  have HK := Lib.hid hK
                  clear hK
                  go_simp
                  refine (CV2.out w' hI.same).mono ?_
                  rintro e w5 ⟨rfl, rfl⟩
                  exact HK.out _ _ rfl (hI.pass (by decide) (by decide)) trivial
                refine And.intro ?_ ?_
                · intro d v w' hdk hI hdn hd K hK
                  simp only [allOf, word, List.getD_cons_zero, List.getD_cons_succ, isVal, and_true, true_and] at hd
                  try simp only [hd] at hK
                  have HK := Lib.hid hK
                  clear hK
                  go_simp
                  exact HK.out _ _ (by first | rfl | (rw [EW.out]; rfl)) (hI.pass (by decide) (by decide)) trivial
                refine And.intro ?_ ?_
                · intro d v w' hdk hI hdn hd K hK
                  simp only [allOf, word, List.getD_cons_zero, List.getD_cons_succ, isVal, and_true, true_and] at hd
                  have HK := Lib.hid hK
                  clear hK
                  go_simp
                  exact HK.out _ _ rfl (hI.pass (by decide) (by decide)) (trivial)
                refine And.intro ?_ ?_
                · intro d v w' hdk hI hdn hd K hK
                  simp only [allOf, word, List.getD_cons_zero, List.getD_cons_succ, isVal, and_true, true_and] at hd
                  try simp only [hd] at hK
                  have HK := Lib.hid hK
                  clear hK
                  go_simp
                  exact HK.out _ _ (by rw [← HA3.out]; first | rfl | simp) (hI.pass (by decide) (by decide)) trivial
                refine And.intro ?_ ?_
                · intro d v w' hdk hI hdn hd K hK
                  simp only [allOf, word, List.getD_cons_zero, List.getD_cons_succ, isVal, and_true, true_and] at hd
                  try simp only [hd] at hK
                  have HK := Lib.hid hK
                  clear hK
                  go_simp
                  exact HK.out _ _ rfl (hI.pass (by decide) (by decide)) (trivial)
                refine And.intro ?_ ?_
                · intro d v w' hdk hI hdn hd K hK
                  simp only [allOf, word, List.getD_cons_zero, List.getD_cons_succ, isVal, and_true, true_and] at hd
                  obtain ⟨hd11, rfl⟩ := hI.at10 hdk
                  have HK := Lib.hid hK
                  clear hK
                  go_simp
                  exact HK.out _ _ rfl (OpI.did10 hd11) trivial
                refine And.intro ?_ ?_
                · intro d v w' hdk hI hdn hd K hK
                  simp only [allOf, word, List.getD_cons_zero, List.getD_cons_succ, isVal, and_true, true_and] at hd
                  simp only [hd] at hK
                  have hq := hI.at11 (by simp only [allTrue, List.getD_cons_zero, List.getD_cons_succ] at hdn; exact hdn.2.1) hdk
                  subst hq
                  have kk := opW_at w2
                  have k0 := cell_of_block kk 0
                  have k1 := cell_of_block kk 1
                  have k2 := cell_of_block kk 2
                  have f0 := free_of_block kk 0
                  have f1 := free_of_block kk 1
                  have f2 := free_of_block kk 2
                  clear kk
                  have HK := Lib.hid hK
                  clear hK
                  go_simp
                  exact HK.out undef _ trivial (OpI.did11 (by simp only [allTrue, List.getD_cons_zero, List.getD_cons_succ] at hdn; exact hdn.2.1)) trivial
                exact trivial
              intro v w6 d hall hI hd
              simp only [allOf, word, List.getD_cons_zero, List.getD_cons_succ, isVal, and_true, true_and] at hd
              obtain ⟨h0, h1, h2, h3, h4, h5, h6, h7, h8, h9, h10⟩ := hd
              simp only [h0, h1, h2, h3, h4, h5, h6, h7, h8, h9, h10]
              clear h0 h1 h2 h3 h4 h5 h6 h7 h8 h9 h10
              -- its end
              have hw6 : w6 = OpZ w2 V1 V2 (.slice A3 n (c8 - 14)) := hI.fin (hall 11 (by decide))
              subst hw6
              clear hI hall
              have ZA := Lib.hid (opZ_at w2 V1 V2 (.slice A3 n (c8 - 14)))
              have ZB := Lib.hid (opZ_below w2 V1 V2 (.slice A3 n (c8 - 14)))
              have S4 := Lib.hid (S3.out.same (w' := OpZ w2 V1 V2 (.slice A3 n (c8 - 14))) (fun ad had hne => ZB.out.block _ (S3.out.lt had hne)))
              have K4 := Lib.hid ((ZB.out.block _ (block_lt K2.out)).trans K2.out)
              have B4 := Lib.hid (HB2.out.trans (ZB.out.mono HB2.out.size))
              have hne : w2.heap.size ≠ w.heap.size := fun e => by have := block_lt K2.out; omega
              have HNE := Lib.hid hne
              clear hne ZB
              generalize OpZ w2 V1 V2 (.slice A3 n (c8 - 14)) = w4 at *
              have q0 := cell_of_block ZA.out 0
              have q1 := cell_of_block ZA.out 1
              have q2 := cell_of_block ZA.out 2
              have k0 := cell_of_block K4.out 0
              have k1 := cell_of_block K4.out 1
              have k2 := cell_of_block K4.out 2
              have f0 := free_of_block K4.out 0
              have f1 := free_of_block K4.out 1
              have f2 := free_of_block K4.out 2
              by_cases hq : V1 = 0
              · have HN : Hid (¬ isRec l) := Lib.hid (fun h => (II2.out.1 h).2 (HV1.out.trans hq))
                have hqb : (V1 == 0) = true := beq_iff_eq.2 hq
                clear hq
                go_wp2_with fail
                exact bodyPost_ret (v := .tuple #[.agg #[.int .u64 0, .int .u32 0, .slice none 0 0], .int .i64 0, .bool false]) (res_cell_tmp2 Try.results70 _ _ w.heap.size 40 _ (0, 0) _ _ _ rfl rfl rfl (set3 K4.out) Try.underlying40 rfl recInfo) rfl (OpenF.no HN.out (below_set3 B4.out))
              · have HY : Hid (isRec l) := Lib.hid (II2.out.2 ⟨⟨HOK.out, fun x hx => by
                  have h := HAN.out
                  rw [allNil, List.all_eq_true] at h
                  exact beq_iff_eq.1 (h x hx)⟩, fun h => hq (HV1.out.symm.trans h)⟩)
                have hqb : (V1 == 0) = false := beq_eq_false_iff_ne.2 hq
                have HRes : Hid (OpenF l w (.returned (.tuple #[.agg #[.int .u64 V1, .int .u32 V2, .slice A3 n (c8 - 14)], .int .i64 j, .bool true])) (((w4.setCell ⟨w.heap.size, 0, none⟩ (.int .u64 V1)).setCell ⟨w.heap.size, 1, none⟩ (.int .u32 V2)).setCell ⟨w.heap.size, 2, none⟩ (.slice A3 n (c8 - 14)))) := Lib.hid (by
                  refine ⟨A3, c8 - 14, ?_, ?_, below_set3 B4.out, HAD.out⟩
                  · rw [openedR, openedN, if_pos HY.out, if_pos HY.out, decide_eq_true HY.out, HSD.out.many, recv, HV1.out, HV2.out, HSD.out.pay_len]
                  · rw [openedR, if_pos HY.out, HSD.out.pay_len, HSD.out.pay]
                    refine S4.out.same (fun ad had hne => ?_)
                    have hb4 : ad.block ≠ w.heap.size := Nat.ne_of_gt (HAD.out ad had)
                    rw [hset_other _ _ _ hb4, hset_other _ _ _ hb4, hset_other _ _ _ hb4])
                clear hq
                go_wp2_with fail
                exact bodyPost_ret (v := .tuple #[.agg #[.int .u64 V1, .int .u32 V2, .slice A3 n (c8 - 14)], .int .i64 j, .bool true]) (res_cell_tmp2 Try.results70 _ _ w.heap.size 40 _ (0, 0) _ _ _ rfl rfl rfl (set3 K4.out) Try.underlying40 rfl recInfo) rfl HRes.out
          · simp only [if_neg hc] at S2'
            go_wp2_with fail
            refine (contains_bw (BB.drop (14 + n + 4)) _ L2.out (by omega) _ _ w2 S2'.out).mono ?_
            rintro e w3 ⟨rfl, rfl⟩
            rw [HAN.out]
            by_cases hno : OK = false ∨ AN = false
            · have HN : Hid (¬ isRec l) := Lib.hid (fun h => by
                have h2 := (II2.out.1 h).1
                rw [HOK.out] at h2
                rcases hno with h3 | h3
                · rw [h3] at h2; exact absurd h2.1 (by decide)
                · have : allNil (BB.drop (14 + n + 4)) = true := by
                    rw [allNil, List.all_eq_true]
                    intro x hx
                    exact beq_iff_eq.2 (h2.2 x hx)
                  rw [HAN.out, h3] at this
                  exact absurd this (by decide))
              have k0 := cell_of_block K2.out 0
              have k1 := cell_of_block K2.out 1
              have k2 := cell_of_block K2.out 2
              have f0 := free_of_block K2.out 0
              have f1 := free_of_block K2.out 1
              have f2 := free_of_block K2.out 2
              clear S2'
              cases OK
              · cases AN
                · go_wp2_with fail
                  exact bodyPost_ret (v := .tuple #[.agg #[.int .u64 0, .int .u32 0, .slice none 0 0], .int .i64 0, .bool false]) (res_cell_tmp2 Try.results70 _ _ w.heap.size 40 _ (0, 0) _ _ _ rfl rfl rfl (set3 K2.out) Try.underlying40 rfl recInfo) rfl (OpenF.no HN.out (below_set3 HB2.out))
                · go_wp2_with fail
                  exact bodyPost_ret (v := .tuple #[.agg #[.int .u64 0, .int .u32 0, .slice none 0 0], .int .i64 0, .bool false]) (res_cell_tmp2 Try.results70 _ _ w.heap.size 40 _ (0, 0) _ _ _ rfl rfl rfl (set3 K2.out) Try.underlying40 rfl recInfo) rfl (OpenF.no HN.out (below_set3 HB2.out))
              · obtain rfl : AN = false := by simpa using hno
                go_wp2_with fail
                exact bodyPost_ret (v := .tuple #[.agg #[.int .u64 0, .int .u32 0, .slice none 0 0], .int .i64 0, .bool false]) (res_cell_tmp2 Try.results70 _ _ w.heap.size 40 _ (0, 0) _ _ _ rfl rfl rfl (set3 K2.out) Try.underlying40 rfl recInfo) rfl (OpenF.no HN.out (below_set3 HB2.out))
            · obtain ⟨rfl, rfl⟩ : OK = true ∧ AN = true := by
                cases OK <;> cases AN <;> simp at hno ⊢
              clear hno
              have HOL : Hid ((opened (BB.take (14 + n + 4))).length = 14 + n ∧ opened (BB.take (14 + n + 4)) = l.flatten.take (14 + n)) := Lib.hid (by
                have e1 : (BB.take (14 + n + 4)).length - 4 = 14 + n := by rw [L1.out]; omega
                have e2 : opened (BB.take (14 + n + 4)) = l.flatten.take (14 + n) := by
                  rw [opened, if_pos HOK.out, e1, ← HBB.out, List.take_take, List.take_take]
                  congr 1
                  have := HMN.out
                  omega
                exact ⟨by rw [e2, List.length_take]; have := HSD.out.long; have := HMN.out; omega, e2⟩)
              have hs8 := Fg.Src.of_own HO8.out
              rw [HOL.out.1, HOL.out.2] at hs8
              have ho9 := HO8.out
              rw [HOL.out.1] at ho9
              simp only [HOL.out.1]
              obtain ⟨g8, rfl⟩ : ∃ g8, A8 = some ⟨g8, 0, none⟩ := by
                obtain ⟨A', c', hv, h1, h2, h3, h4⟩ := own_form ho9
                injection hv with e1 e2 e3
                subst e1 e3
                cases A8 with
                | none => have := (h3 rfl).1; omega
                | some ad => obtain ⟨g, rfl, _⟩ := h4 ad rfl; exact ⟨g, rfl⟩
              have HO9 := Lib.hid ho9
              clear ho9
              have hc8 : 14 + n ≤ c8 := hs8.cap
              have hcI8 : 14 + (n : Int) ≤ c8 := by omega
              have hFs := HS.out.ok.flat_small
              have hFl : 14 + n ≤ l.flatten.length := by have := HSD.out.long; have := HMN.out; omega
              have hlt : (l.flatten.take (14 + n)).length = 14 + n := by rw [List.length_take]; omega
              have p1 : ((l.flatten.take (14 + n)).drop 2).take 8 = (l.flatten.drop 2).take 8 := by rw [List.drop_take, List.take_take, show min 8 (14 + n - 2) = 8 by omega]
              have p2 : ((l.flatten.take (14 + n)).drop 10).take 4 = (l.flatten.drop 10).take 4 := by rw [List.drop_take, List.take_take, show min 4 (14 + n - 10) = 4 by omega]
              have p3 : (l.flatten.take (14 + n)).drop 14 = (l.flatten.drop 14).take n := by rw [List.drop_take, show 14 + n - 14 = n by omega]
              have t1 : ((l.flatten.drop 2).take 8).length = 8 := by rw [List.length_take, List.length_drop]; omega
              have t2 : ((l.flatten.drop 10).take 4).length = 4 := by rw [List.length_take, List.length_drop]; omega
              have m1 : Small ((l.flatten.drop 2).take 8) := fun x hx => hFs x (List.mem_of_mem_drop (List.mem_of_mem_take hx))
              have m2 : Small ((l.flatten.drop 10).take 4) := fun x hx => hFs x (List.mem_of_mem_drop (List.mem_of_mem_take hx))
              have v1 := val_range 8 _ t1 m1
              have v2 := val_range 4 _ t2 m2
              obtain ⟨PP, hPP⟩ : ∃ PP, l.flatten.take (14 + n) = PP := ⟨_, rfl⟩
              rw [hPP] at hs8 hlt p1 p2 p3
              have s1 : Fg.Src w2 (some ⟨g8, 2, none⟩) 8 (c8 - 2) (bv ((l.flatten.drop 2).take 8)) := by
                have h := hs8
                rw [← hlt] at h
                have h2 := src_drop (l := PP) (n := 2) h (by omega)
                rw [← List.length_drop] at h2
                have h3 := src_take (n := 8) h2 (by rw [List.length_drop]; omega)
                rw [p1, Addr.add_lit, Nat.zero_add] at h3
                exact h3
              have s2 : Fg.Src w2 (some ⟨g8, 10, none⟩) 4 (c8 - 10) (bv ((l.flatten.drop 10).take 4)) := by
                have h := hs8
                rw [← hlt] at h
                have h2 := src_drop (l := PP) (n := 10) h (by omega)
                rw [← List.length_drop] at h2
                have h3 := src_take (n := 4) h2 (by rw [List.length_drop]; omega)
                rw [p2, Addr.add_lit, Nat.zero_add] at h3
                exact h3
              have s3 : Fg.Src w2 (if c8 = 14 then some ⟨g8, 0, none⟩ else some ⟨g8, 14, none⟩) n (c8 - 14) (bv ((l.flatten.drop 14).take n)) := by
                have h := hs8
                rw [← hlt] at h
                have h3 := src_tail (l := PP) (k := 14) (n := n) h (by omega)
                rw [p3, Addr.add_lit, Nat.zero_add] at h3
                exact h3
              have CV1 := Lib.hid (fun w' h => value_bw _ m1 8 t1 (by decide) _ _ w' (s1.same (fun ad had hne => h _ (s1.lt had hne))) : ∀ w', (∀ k, k < w2.heap.size → w'.heap[k]? = w2.heap[k]?) → _)
              have CV2 := Lib.hid (fun w' h => value_bw _ m2 4 t2 (by decide) _ _ w' (s2.same (fun ad had hne => h _ (s2.lt had hne))) : ∀ w', (∀ k, k < w2.heap.size → w'.heap[k]? = w2.heap[k]?) → _)
              obtain ⟨V1, hV1⟩ : ∃ V1, val ((l.flatten.drop 2).take 8) = V1 := ⟨_, rfl⟩
              obtain ⟨V2, hV2⟩ : ∃ V2, val ((l.flatten.drop 10).take 4) = V2 := ⟨_, rfl⟩
              obtain ⟨A3, hA3⟩ : ∃ A3, (if c8 = 14 then some (⟨g8, 0, none⟩ : Addr) else some ⟨g8, 14, none⟩) = A3 := ⟨_, rfl⟩
              rw [hA3] at s3
              rw [hV1] at v1 CV1
              rw [hV2] at v2 CV2
              have HV1 : Hid ((said l).seq = V1) := Lib.hid hV1
              have HV2 : Hid ((said l).epoch = V2) := Lib.hid hV2
              have HA3 := Lib.hid hA3
              have HAD : Hid (∀ ad, A3 = some ad → w.heap.size < ad.block) := Lib.hid (fun ad had => by
                have h8 : wr.heap.size ≤ g8 := (HO9.out.lt g8 rfl).1
                have hk := block_lt K1.out
                have hz := HBE.out.size
                rw [← hA3] at had
                split at had
                · injection had with had
                  subst had
                  show _ < g8
                  omega
                · injection had with had
                  subst had
                  show _ < g8
                  omega)
              have S3 := Lib.hid s3
              have EW : Hid (IntKind.u32.wrap V2 = V2) := Lib.hid (by rw [IntKind.wrap_u32]; omega)
              have hv10 : 0 ≤ V1 := v1.1
              have hc10 : (10 : Int) ≤ c8 := by omega
              have hcn2 : ¬ c8 = 2 := by omega
              have hcn10 : ¬ c8 = 10 := by omega
              have hc14 : (14 : Int) ≤ c8 := by omega
              have hn0 : (14 : Int) ≤ 14 + (n : Int) := by omega
              have hv20 : 0 ≤ V2 := v2.1
              have hv21 : V2 < 4294967296 := v2.2
              clear hs8 hFs hFl hlt p1 p2 p3 hPP t1 t2 m1 m2 v1 v2 s1 s2 s3 hV1 hV2 hA3 S1 S2 S2' L1 L2 hdl hmz hml hmc hl hcap h0 hl0
              go_upto_region 18 with fail
              -- region fo18
              apply wp_region_words2 (fun _ _ => True) (OpI w2 V1 V2 (.slice A3 n (c8 - 14)))
                [isVal _, isVal _, isVal (.int .u64 V1), isVal _, isVal _, isVal (.int .u64 V2), isVal (.int .u32 V2), isVal _, isVal (.slice A3 n (c8 - 14)), isVal (.agg #[.int .u64 V1, .int .u32 V2, .slice A3 n (c8 - 14)]), isVal (.pointer (some ⟨w2.heap.size, 0, none⟩)), fun _ _ => True]
                [[], [0], [1], [], [3], [4], [5], [], [7], [2, 6, 8], [], [9, 10]] [0, 1, 2, 3, 4, 5, 6, 7, 8, 9, 10, 11] (by kernel_rfl) (by kernel_rfl) ?hFc ?standc ?hIc ?stepsc ?finc
              case hFc => intro v; simp [fillFrom, Act.put]; rfl
              case standc =>
                repeat' (first | exact trivial | (refine And.intro ?_ ?_))
                all_goals first | exact (fun _ _ _ _ _ _ => trivial) | (intro u w w' h _ _; exact h)
              case hIc => exact .inl ⟨rfl, rfl, rfl⟩
              case stepsc =>
                refine And.intro ?_ ?_
                · intro d v w' hdk hI hdn hd K hK
                  simp only [allOf, word, List.getD_cons_zero, List.getD_cons_succ, isVal, and_true, true_and] at hd
                  have HK := Lib.hid hK
                  clear hK
                  go_simp
                  exact HK.out _ _ rfl (hI.pass (by decide) (by decide)) (trivial)
                refine And.intro ?_ ?_
                · intro d v w' hdk hI hdn hd K hK
                  simp only [allOf, word, List.getD_cons_zero, List.getD_cons_succ, isVal, and_true, true_and] at hd
                  try simp only [hd] at hK
                  have HK := Lib.hid hK
                  clear hK
                  go_simp
                  exact HK.out _ _ rfl (hI.pass (by decide) (by decide)) (trivial)
                refine And.intro ?_ ?_
                · intro d v w' hdk hI hdn hd K hK
                  simp only [allOf, word, List.getD_cons_zero, List.getD_cons_succ, isVal, and_true, true_and] at hd
                  try simp only [hd] at hK
                  have HK := Lib.hid hK
                  clear hK
                  go_simp
                  refine (CV1.out w' hI.same).mono ?_
                  rintro e w5 ⟨rfl, rfl⟩
                  exact HK.out _ _ rfl (hI.pass (by decide) (by decide)) trivial
                refine And.intro ?_ ?_
                · intro d v w' hdk hI hdn hd K hK
                  simp only [allOf, word, List.getD_cons_zero, List.getD_cons_succ, isVal, and_true, true_and] at hd
                  have HK := Lib.hid hK
                  clear hK
                  go_simp
                  exact HK.out _ _ rfl (hI.pass (by decide) (by decide)) (trivial)
                refine And.intro ?_ ?_
                · intro d v w' hdk hI hdn hd K hK
                  simp only [allOf, word, List.getD_cons_zero, List.getD_cons_succ, isVal, and_true, true_and] at hd
                  try simp only [hd] at hK
                  have HK := Lib.hid hK
                  clear hK
                  go_simp
                  exact HK.out _ _ rfl (hI.pass (by decide) (by decide)) (trivial)
                refine And.intro ?_ ?_
                · intro d v w' hdk hI hdn hd K hK
                  simp only [allOf, word, List.getD_cons_zero, List.getD_cons_succ, isVal, and_true, true_and] at hd
                  try simp only [hd] at hK
                  have HK := Lib.hid hK
                  clear hK
                  go_simp
                  refine (CV2.out w' hI.same).mono ?_
                  rintro e w5 ⟨rfl, rfl⟩
                  exact HK.out _ _ rfl (hI.pass (by decide) (by decide)) trivial
                refine And.intro ?_ ?_
                · intro d v w' hdk hI hdn hd K hK
                  simp only [allOf, word, List.getD_cons_zero, List.getD_cons_succ, isVal, and_true, true_and] at hd
                  try simp only [hd] at hK
                  have HK := Lib.hid hK
                  clear hK
                  go_simp
                  exact HK.out _ _ (by first | rfl | (rw [EW.out]; rfl)) (hI.pass (by decide) (by decide)) trivial
                refine And.intro ?_ ?_
                · intro d v w' hdk hI hdn hd K hK
                  simp only [allOf, word, List.getD_cons_zero, List.getD_cons_succ, isVal, and_true, true_and] at hd
                  have HK := Lib.hid hK
                  clear hK
                  go_simp
                  exact HK.out _ _ rfl (hI.pass (by decide) (by decide)) (trivial)
                refine And.intro ?_ ?_
                · intro d v w' hdk hI hdn hd K hK
                  simp only [allOf, word, List.getD_cons_zero, List.getD_cons_succ, isVal, and_true, true_and] at hd
                  try simp only [hd] at hK
                  have HK := Lib.hid hK
                  clear hK
                  go_simp
                  exact HK.out _ _ (by rw [← HA3.out]; first | rfl | simp) (hI.pass (by decide) (by decide)) trivial
                refine And.intro ?_ ?_
                · intro d v w' hdk hI hdn hd K hK
                  simp only [allOf, word, List.getD_cons_zero, List.getD_cons_succ, isVal, and_true, true_and] at hd
                  try simp only [hd] at hK
                  have HK := Lib.hid hK
                  clear hK
                  go_simp
                  exact HK.out _ _ rfl (hI.pass (by decide) (by decide)) (trivial)
                refine And.intro ?_ ?_
                · intro d v w' hdk hI hdn hd K hK
                  simp only [allOf, word, List.getD_cons_zero, List.getD_cons_succ, isVal, and_true, true_and] at hd
                  obtain ⟨hd11, rfl⟩ := hI.at10 hdk
                  have HK := Lib.hid hK
                  clear hK
                  go_simp
                  exact HK.out _ _ rfl (OpI.did10 hd11) trivial
                refine And.intro ?_ ?_
                · intro d v w' hdk hI hdn hd K hK
                  simp only [allOf, word, List.getD_cons_zero, List.getD_cons_succ, isVal, and_true, true_and] at hd
                  simp only [hd] at hK
                  have hq := hI.at11 (by simp only [allTrue, List.getD_cons_zero, List.getD_cons_succ] at hdn; exact hdn.2.1) hdk
                  subst hq
                  have kk := opW_at w2
                  have k0 := cell_of_block kk 0
                  have k1 := cell_of_block kk 1
                  have k2 := cell_of_block kk 2
                  have f0 := free_of_block kk 0
                  have f1 := free_of_block kk 1
                  have f2 := free_of_block kk 2
                  clear kk
                  have HK := Lib.hid hK
                  clear hK
                  go_simp
                  exact HK.out undef _ trivial (OpI.did11 (by simp only [allTrue, List.getD_cons_zero, List.getD_cons_succ] at hdn; exact hdn.2.1)) trivial
                exact trivial
              intro v w6 d hall hI hd
              simp only [allOf, word, List.getD_cons_zero, List.getD_cons_succ, isVal, and_true, true_and] at hd
              obtain ⟨h0, h1, h2, h3, h4, h5, h6, h7, h8, h9, h10⟩ := hd
              simp only [h0, h1, h2, h3, h4, h5, h6, h7, h8, h9, h10]
              clear h0 h1 h2 h3 h4 h5 h6 h7 h8 h9 h10
              -- end region fo18
              have hw6 : w6 = OpZ w2 V1 V2 (.slice A3 n (c8 - 14)) := hI.fin (hall 11 (by decide))
              subst hw6
              clear hI hall
              have ZA := Lib.hid (opZ_at w2 V1 V2 (.slice A3 n (c8 - 14)))
              have ZB := Lib.hid (opZ_below w2 V1 V2 (.slice A3 n (c8 - 14)))
              have S4 := Lib.hid (S3.out.same (w' := OpZ w2 V1 V2 (.slice A3 n (c8 - 14))) (fun ad had hne => ZB.out.block _ (S3.out.lt had hne)))
              have K4 := Lib.hid ((ZB.out.block _ (block_lt K2.out)).trans K2.out)
              have B4 := Lib.hid (HB2.out.trans (ZB.out.mono HB2.out.size))
              have hne : w2.heap.size ≠ w.heap.size := fun e => by have := block_lt K2.out; omega
              have HNE := Lib.hid hne
              clear hne ZB
              generalize OpZ w2 V1 V2 (.slice A3 n (c8 - 14)) = w4 at *
              have q0 := cell_of_block ZA.out 0
              have q1 := cell_of_block ZA.out 1
              have q2 := cell_of_block ZA.out 2
              have k0 := cell_of_block K4.out 0
              have k1 := cell_of_block K4.out 1
              have k2 := cell_of_block K4.out 2
              have f0 := free_of_block K4.out 0
              have f1 := free_of_block K4.out 1
              have f2 := free_of_block K4.out 2
              by_cases hq : V1 = 0
              · have HN : Hid (¬ isRec l) := Lib.hid (fun h => (II2.out.1 h).2 (HV1.out.trans hq))
                have hqb : (V1 == 0) = true := beq_iff_eq.2 hq
                clear hq
                go_wp2_with fail
                exact bodyPost_ret (v := .tuple #[.agg #[.int .u64 0, .int .u32 0, .slice none 0 0], .int .i64 0, .bool false]) (res_cell_tmp2 Try.results70 _ _ w.heap.size 40 _ (0, 0) _ _ _ rfl rfl rfl (set3 K4.out) Try.underlying40 rfl recInfo) rfl (OpenF.no HN.out (below_set3 B4.out))
              · have HY : Hid (isRec l) := Lib.hid (II2.out.2 ⟨⟨HOK.out, fun x hx => by
                  have h := HAN.out
                  rw [allNil, List.all_eq_true] at h
                  exact beq_iff_eq.1 (h x hx)⟩, fun h => hq (HV1.out.symm.trans h)⟩)
                have hqb : (V1 == 0) = false := beq_eq_false_iff_ne.2 hq
                have HRes : Hid (OpenF l w (.returned (.tuple #[.agg #[.int .u64 V1, .int .u32 V2, .slice A3 n (c8 - 14)], .int .i64 j, .bool true])) (((w4.setCell ⟨w.heap.size, 0, none⟩ (.int .u64 V1)).setCell ⟨w.heap.size, 1, none⟩ (.int .u32 V2)).setCell ⟨w.heap.size, 2, none⟩ (.slice A3 n (c8 - 14)))) := Lib.hid (by
                  refine ⟨A3, c8 - 14, ?_, ?_, below_set3 B4.out, HAD.out⟩
                  · rw [openedR, openedN, if_pos HY.out, if_pos HY.out, decide_eq_true HY.out, HSD.out.many, recv, HV1.out, HV2.out, HSD.out.pay_len]
                  · rw [openedR, if_pos HY.out, HSD.out.pay_len, HSD.out.pay]
                    refine S4.out.same (fun ad had hne => ?_)
                    have hb4 : ad.block ≠ w.heap.size := Nat.ne_of_gt (HAD.out ad had)
                    rw [hset_other _ _ _ hb4, hset_other _ _ _ hb4, hset_other _ _ _ hb4])
                clear hq
                go_wp2_with fail
                exact bodyPost_ret (v := .tuple #[.agg #[.int .u64 V1, .int .u32 V2, .slice A3 n (c8 - 14)], .int .i64 j, .bool true]) (res_cell_tmp2 Try.results70 _ _ w.heap.size 40 _ (0, 0) _ _ _ rfl rfl rfl (set3 K4.out) Try.underlying40 rfl recInfo) rfl HRes.out
    · have HN := Lib.hid (NO.out hm)
      have k0 := cell_of_block K1.out 0
      have k1 := cell_of_block K1.out 1
      have k2 := cell_of_block K1.out 2
      have f0 := free_of_block K1.out 0
      have f1 := free_of_block K1.out 1
      have f2 := free_of_block K1.out 2
      by_cases hz : M = 0
      · have hzb : (M == 0) = true := beq_iff_eq.2 hz
        clear hm hz
        go_wp2_with fail
        exact bodyPost_ret (v := .tuple #[.agg #[.int .u64 0, .int .u32 0, .slice none 0 0], .int .i64 0, .bool false]) (res_cell_tmp2 Try.results70 _ _ w.heap.size 40 _ (0, 0) _ _ _ rfl rfl rfl (set3 K1.out) Try.underlying40 rfl recInfo) rfl (OpenF.no HN.out (below_set3 HB.out))
      · have hzb : (M == 0) = false := beq_eq_false_iff_ne.2 hz
        have hgt : (l.length : Int) < M := by omega
        clear hm hz
        go_wp2_with fail
        exact bodyPost_ret (v := .tuple #[.agg #[.int .u64 0, .int .u32 0, .slice none 0 0], .int .i64 0, .bool false]) (res_cell_tmp2 Try.results70 _ _ w.heap.size 40 _ (0, 0) _ _ _ rfl rfl rfl (set3 K1.out) Try.underlying40 rfl recInfo) rfl (OpenF.no HN.out (below_set3 HB.out))
theorem fopen_any (l : List (List Int)) (A : Option Addr) (c : Nat) (w : World) (hs : SecsAt w A c l) (hl : l.length ≤ 1000000) :
    Calls Try.prog 70 #[.slice A l.length c] w (OpenE l w) :=
  (fopen_new l A c w hs hl).mono fun e w' h => by
    obtain ⟨A, c, h1, h2, h3, -⟩ := h
    exact ⟨A, c, h1, h2, h3⟩
end Go.Proofs.Ytogkibikghbghaa.Frame
