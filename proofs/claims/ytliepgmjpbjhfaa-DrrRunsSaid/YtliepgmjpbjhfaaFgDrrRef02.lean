/- The document's scheduler: a member's state is changed. Conditions: none beyond each lemma's own hypotheses. -/
import Derived.Test.YtliepgmjpbjhfaaFgDrrRef0
import Derived.Test.YtliepgmjpbjhfaaFgDrrRef01
set_option linter.unusedVariables false
set_option linter.unusedSimpArgs false
namespace Go.Proofs.Ytliepgmjpbjhfaa.Drr
open Go.RowKit Go.Proofs.Ytliepgmjpbjhfaa.Fg Go.Shelf Go.Maps

theorem flat_len {k : Nat} : ∀ {rows : List (List Value)}, (∀ r ∈ rows, r.length = k) → rows.flatten.length = rows.length * k
  | [], _ => by simp
  | r :: rows, h => by
    rw [List.flatten_cons, List.length_append, flat_len (fun x hx => h x (by simp [hx])), h r (by simp), List.length_cons, Nat.add_mul, Nat.one_mul, Nat.add_comm]
theorem flat_take {k : Nat} : ∀ {rows : List (List Value)}, (∀ r ∈ rows, r.length = k) → ∀ (i : Nat), rows.flatten.take (i * k) = (rows.take i).flatten
  | [], _, i => by simp
  | r :: rows, h, 0 => by simp
  | r :: rows, h, i + 1 => by
    have hr := h r (by simp)
    rw [List.flatten_cons, List.take_append, hr, show (i + 1) * k - k = i * k by rw [Nat.add_mul]; omega, flat_take (fun x hx => h x (by simp [hx])) i, List.take_of_length_le (by rw [hr, Nat.add_mul]; omega)]
    rfl
theorem flat_drop {k : Nat} : ∀ {rows : List (List Value)}, (∀ r ∈ rows, r.length = k) → ∀ (i : Nat), rows.flatten.drop (i * k) = (rows.drop i).flatten
  | [], _, i => by simp
  | r :: rows, h, 0 => by simp
  | r :: rows, h, i + 1 => by
    have hr := h r (by simp)
    rw [List.flatten_cons, List.drop_append, hr, show (i + 1) * k - k = i * k by rw [Nat.add_mul]; omega, flat_drop (fun x hx => h x (by simp [hx])) i, List.drop_of_length_le (by rw [hr, Nat.add_mul]; omega)]
    rfl
theorem flat_set {k : Nat} {rows : List (List Value)} (h : ∀ r ∈ rows, r.length = k) (i : Nat) (hi : i < rows.length) (new : List Value) (hn : new.length = k) :
    rows.flatten.take (i * k) ++ (new ++ rows.flatten.drop (i * k + k)) = (rows.set i new).flatten := by
  rw [flat_take h, show i * k + k = (i + 1) * k by rw [Nat.add_mul]; omega, flat_drop h, List.set_eq_take_append_cons_drop, if_pos hi, List.flatten_append, List.flatten_cons]
theorem set_len {k : Nat} {rows : List (List Value)} (h : ∀ r ∈ rows, r.length = k) (i : Nat) {new : List Value} (hn : new.length = k) : ∀ r ∈ rows.set i new, r.length = k := by
  intro r hr
  rcases List.mem_or_eq_of_mem_set hr with hr | rfl
  · exact h r hr
  · exact hn
theorem heap_setCells (b : Nat) {t : TypeId} {fr : Nat × Nat} : ∀ (vs : List Value) (o : Nat) (w : World) (cur : Array Value), w.heap[b]? = some (.cells cur t fr) → o + vs.length ≤ cur.size →
    (w.setCells b o vs).heap[b]? = some (.cells (cur.toList.take o ++ (vs ++ cur.toList.drop (o + vs.length))).toArray t fr)
  | [], o, w, cur, h, _ => by
    show w.heap[b]? = _
    rw [h]
    simp
  | v :: r, o, w, cur, h, hl => by
    rw [World.setCells, heap_setCells b r (o + 1) (w.setCell ⟨b, o, none⟩ v) _ (hset_at w b o v h) (by simp at hl ⊢; omega)]
    simp only [List.length_cons] at hl
    congr 3
    have ho : o < cur.toList.length := by simp; omega
    simp only [Array.toList_setIfInBounds, List.length_cons]
    rw [List.set_eq_take_append_cons_drop, if_pos ho]
    have hto : (cur.toList.take o).length = o := by rw [List.length_take]; omega
    rw [List.take_append, List.take_of_length_le (by omega), hto, show o + 1 - o = 1 by omega, List.take_succ_cons, List.take_zero, List.drop_append, List.drop_of_length_le (by omega), hto, List.nil_append,
      show o + 1 + r.length - o = r.length + 1 by omega, List.drop_succ_cons, List.drop_drop, show o + 1 + r.length = o + (r.length + 1) by omega]
    simp
theorem heap_setCells_ne (b : Nat) : ∀ (vs : List Value) (o : Nat) (w : World) {i : Nat}, i ≠ b → (w.setCells b o vs).heap[i]? = w.heap[i]?
  | [], _, _, _, _ => rfl
  | v :: r, o, w, i, h => by rw [World.setCells, heap_setCells_ne b r (o + 1) _ h, hset_other w ⟨b, o, none⟩ v h]
theorem setCells_stays (b : Nat) : ∀ (vs : List Value) (o : Nat) (w : World), (w.setCells b o vs).os = w.os ∧ (w.setCells b o vs).tape = w.tape ∧ (w.setCells b o vs).output = w.output ∧ (w.setCells b o vs).heap.size = w.heap.size
  | [], _, _ => ⟨rfl, rfl, rfl, rfl⟩
  | v :: r, o, w => by
    have := setCells_stays b r (o + 1) (w.setCell ⟨b, o, none⟩ v)
    rw [World.setCells]
    exact ⟨this.1, this.2.1, this.2.2.1, by rw [this.2.2.2]; simp⟩
theorem below_setCells {B : Nat} {a w : World} (h : Below B a w) (b o : Nat) (vs : List Value) (hb : B ≤ b) : Below B a (w.setCells b o vs) := by
  obtain ⟨e1, e2, e3, e4⟩ := setCells_stays b vs o w
  exact ⟨e1.trans h.os, e2.trans h.tape, e3.trans h.output, by rw [e4]; exact h.size, fun k hk => (heap_setCells_ne b vs o w (by omega)).trans (h.block k hk)⟩
theorem take_lay (cs vs : List Value) (o n : Nat) (h1 : o + vs.length ≤ n) (h2 : n ≤ cs.length) :
    (cs.take o ++ (vs ++ cs.drop (o + vs.length))).take n = (cs.take n).take o ++ (vs ++ (cs.take n).drop (o + vs.length)) := by
  rw [List.take_append, List.take_append, List.length_take, Nat.min_eq_left (by omega), List.take_of_length_le (l := cs.take o) (by rw [List.length_take]; omega), List.take_of_length_le (l := vs) (by omega), List.take_take, Nat.min_eq_left (by omega), List.drop_take, Nat.sub_sub]
theorem own_store {w : World} {base : Nat} {e : TypeId} {k n c g : Nat} {rows : List (List Value)} (h : w.ownsRow base e k (.slice (some ⟨g, 0, none⟩) n c) n rows.flatten) (hk : ∀ r ∈ rows, r.length = k) (hl : rows.length = n)
    (i : Nat) (hi : i < n) (new : List Value) (hn : new.length = k) : (w.setCells g (i * k) new).ownsRow base e k (.slice (some ⟨g, 0, none⟩) n c) n (rows.set i new).flatten ∧ w.there g (i * k) k := by
  obtain ⟨h1, h2⟩ := h
  rcases h2 with ⟨h', _⟩ | ⟨g', c', cur, h', hb, hg, hnc, hcm, hcs, htake⟩
  · simp at h'
  · simp only [Value.slice.injEq, Option.some.injEq, Addr.mk.injEq, and_true, true_and] at h'
    obtain ⟨rfl, rfl⟩ := h'
    have hcl : cur.toList.length = c * k := by simpa using hcs
    have hle : i * k + k ≤ n * k := by have := Nat.mul_le_mul_right k (show i + 1 ≤ n from hi); rw [Nat.add_mul, Nat.one_mul] at this; exact this
    have hle2 : n * k ≤ c * k := Nat.mul_le_mul_right k hnc
    refine ⟨⟨?_, .inr ⟨g, c, _, rfl, hb, heap_setCells g new (i * k) w cur hg (by rw [hn, hcs]; omega), hnc, hcm, ?_, ?_⟩⟩, fun j hj => ⟨?_, free_of_block hg _⟩⟩
    · rw [flat_len (set_len hk i hn), List.length_set, hl]
    · simp only [List.size_toArray, List.length_append, List.length_take, List.length_drop]
      omega
    · rw [← flat_set hk i (by omega) new hn, ← htake]
      have := take_lay cur.toList new (i * k) (n * k) (by omega) (by omega)
      rw [hn] at this ⊢
      exact this
    · rw [cell_of_block hg, Array.getElem?_eq_getElem (by rw [hcs]; omega)]
      rfl
theorem mrow_one (ms : List Mb) : ∀ u ∈ (ms.map mrow).flatten, u.oneCell' = true := by
  intro u hu
  obtain ⟨r, hr, hu⟩ := List.mem_flatten.1 hu
  obtain ⟨x, hx, rfl⟩ := List.mem_map.1 hr
  simp only [mrow, List.mem_cons, List.not_mem_nil, or_false] at hu
  rcases hu with rfl | rfl | rfl | rfl <;> rfl
theorem memInfo : (Try.prog.info? 75).map (fun i => (i.zero, i.size, i.bytes)) = some (some (.agg #[.int .i64 0, .int .u64 0, .int .u64 0, .bool false]), 4, 32) := by kernel_rfl
/-- Three boxes. -/
theorem three_boxes (w : World) (a b c : Array Value) (s t u : TypeId) : ∃ w1, ((w.alloc (.cells a s)).alloc (.cells b t)).alloc (.cells c u) = w1 ∧ Below w.heap.size w w1 ∧ w1.heap[w.heap.size]? = some (.cells a s (0, 0)) ∧ w1.heap[w.heap.size + 1]? = some (.cells b t (0, 0)) ∧ w1.heap[w.heap.size + 1 + 1]? = some (.cells c u (0, 0)) ∧ w1.heap.size = w.heap.size + 1 + 1 + 1 := by
  refine ⟨_, rfl, (((Below.refl _ _).alloc (Nat.le_refl _) _).alloc (by simp) _).alloc (by simp; omega) _, (heap_alloc_old _ _ (by simp; omega)).trans ((heap_alloc_old _ _ (by simp)).trans (heap_alloc_at w _)), (heap_alloc_old _ _ (by simp)).trans ?_, ?_, by simp⟩
  · have := heap_alloc_at (w.alloc (.cells a s)) (.cells b t)
    simpa using this
  · have := heap_alloc_at ((w.alloc (.cells a s)).alloc (.cells b t)) (.cells c u)
    simpa using this
theorem two_boxes (w : World) (a b : Array Value) (s t : TypeId) : ∃ w1, (w.alloc (.cells a s)).alloc (.cells b t) = w1 ∧ Below w.heap.size w w1 ∧ w1.heap[w.heap.size]? = some (.cells a s (0, 0)) ∧ w1.heap[w.heap.size + 1]? = some (.cells b t (0, 0)) ∧ w1.heap.size = w.heap.size + 1 + 1 := by
  refine ⟨_, rfl, ((Below.refl _ _).alloc (Nat.le_refl _) _).alloc (by simp) _, (heap_alloc_old _ _ (by simp)).trans (heap_alloc_at w _), ?_, by simp⟩
  have := heap_alloc_at (w.alloc (.cells a s)) (.cells b t)
  simpa using this
theorem set_upd : ∀ {ms : List Mb} {i : Nat} {m m' : Mb}, (ms.map Mb.who).Nodup → ms[i]? = some m → m'.who = m.who → ms.set i m' = upd ms m'
  | [], i, m, m', _, h, _ => by simp at h
  | y :: r, 0, m, m', hn, h, hw => by
    simp only [List.getElem?_cons_zero, Option.some.injEq] at h
    subst h
    simp only [List.map_cons, List.nodup_cons] at hn
    unfold upd
    rw [List.set_cons_zero, List.map_cons, if_pos hw.symm]
    congr 1
    have : ∀ x ∈ r, (if x.who = m'.who then m' else x) = x := fun x hx => if_neg (fun e => hn.1 (by rw [← hw, ← e]; exact List.mem_map_of_mem hx))
    rw [List.map_congr_left this, List.map_id']
  | y :: r, i + 1, m, m', hn, h, hw => by
    simp only [List.getElem?_cons_succ] at h
    simp only [List.map_cons, List.nodup_cons] at hn
    rw [List.set_cons_succ, set_upd hn.2 h hw]
    unfold upd
    rw [List.map_cons, if_neg (fun e => hn.1 (by rw [e, hw]; exact List.mem_map_of_mem (List.mem_of_getElem? h)))]

set_option maxRecDepth 100000 in
set_option maxHeartbeats 2000000 in
theorem change_any {w : World} {A1 A2 : Option Addr} {c1 n2 c2 : Nat} {ms : List Mb} (h : w.ownsRow 0 75 4 (.slice A1 ms.length c1) ms.length (ms.map mrow).flatten) (hl : ms.length ≤ 8) (i : Nat) (hi : i < ms.length) (a : Int) (b c : Int) (d : Bool) :
    Calls Try.prog 36 #[.agg #[.slice A1 ms.length c1, .slice A2 n2 c2], .int .i64 i, .agg #[.int .i64 a, .int .u64 b, .int .u64 c, .bool d]] w fun e w' =>
      ∃ A C, e = .returned (.agg #[.slice A ms.length C, .slice A2 n2 c2]) ∧ w'.ownsRow w.heap.size 75 4 (.slice A ms.length C) ms.length ((ms.set i ⟨a, b, c, d⟩).map mrow).flatten ∧ Below w.heap.size w w' := by
  have HH := Lib.hid h
  obtain ⟨w1, hw1, hB, h0, h1, h2, hz⟩ := three_boxes w #[.slice A1 ms.length c1, .slice A2 n2 c2] #[.int .i64 a, .int .u64 b, .int .u64 c, .bool d] #[.slice none 0 0, .slice none 0 0] 48 75 48
  have B1 := Lib.hid hB
  have M0 := Lib.hid h0
  have M1 := Lib.hid h1
  have M2 := Lib.hid h2
  have HW := Lib.hid hw1
  have HL : Hid ((ms.map mrow).flatten.length = ms.length * 4) := Lib.hid (by rw [flat_len (mrow_4 ms), List.length_map])
  have hic : (i : Int) < ms.length := by omega
  clear hw1 h0 h1 h2 hB h
  go_enter Try.func36, Try.ntmps36
  go_upto_region 1 with fail
  rw [HW.out]
  have x1 : (w1.alloc (.cells #[] 75)).cell? ⟨w.heap.size, 0, none⟩ = some (.slice A1 ms.length c1) := cell_of_block ((heap_alloc_old _ _ (block_lt M0.out)).trans M0.out) 0
  have HB : Hid ((0 + ms.length) * 32 ≤ 140737488355328) := Lib.hid (by omega)
  have HS : Hid (Src (w1.alloc (.cells #[] 75)) A1 ms.length c1 (ms.map mrow).flatten) := Lib.hid (Fg.Src.of_own (own_same HH.out fun k hk => ((heap_alloc_old _ _ (by have := (HH.out.lt k hk).2; omega)).trans (B1.out.block k (HH.out.lt k hk).2))))
  have HO : Hid ((w1.alloc (.cells #[] 75)).ownsRow w1.heap.size 75 4 (.slice (some ⟨w1.heap.size, 0, none⟩) 0 0) 0 []) := Lib.hid (World.ownsRow_made w1 #[] 0 (Nat.le_refl _) (Nat.zero_le _) rfl)
  have HZ := Lib.hid hz
  clear hz HW
  go_upto_region 2 with (at_builtin; refine wpList_append_any rfl (.tmp 8) (.tmp 10) 46 rfl w1.heap.size 75 (.agg #[.int .i64 0, .int .u64 0, .int .u64 0, .bool false]) 4 32 Try.underlying46 memInfo rfl (by decide) (by decide) (.slice (some ⟨w1.heap.size, 0, none⟩) 0 0) 0 [] rfl HO.out A1 ms.length c1 (ms.map mrow).flatten rfl HS.out HL.out (mrow_one ms) HB.out (by simp) ?_)
  intro v9 w2 ho9 hg9 _ _
  try simp only [Nat.zero_add, List.nil_append] at ho9
  obtain ⟨A9, c9, rfl, hc9, -, hA9, hB9⟩ := own_form ho9
  obtain ⟨g9, rfl⟩ : ∃ g, A9 = some ⟨g, 0, none⟩ := by
    cases A9 with
    | none => have := (hA9 rfl).1; omega
    | some ad => obtain ⟨g, rfl, -⟩ := hB9 ad rfl; exact ⟨g, rfl⟩
  have hgl := (ho9.lt g9 rfl)
  obtain ⟨st, th⟩ := own_store ho9 (mrow_4 ms) (by simp) i hi [.int .i64 a, .int .u64 b, .int .u64 c, .bool d] rfl
  have old : ∀ k, k < w1.heap.size → w2.heap[k]? = w1.heap[k]? := fun k hk => (hg9.block k (by simp; omega) (fun e => by injection e with e; have e : k = w1.heap.size := e; omega)).trans (heap_alloc_old _ _ hk)
  have N1 := (old _ (block_lt M1.out)).trans M1.out
  have y0 : w2.cell? ⟨w.heap.size + 1, 0, none⟩ = some (.int .i64 a) := cell_of_block N1 0
  have y1 : w2.cell? ⟨w.heap.size + 1, 1, none⟩ = some (.int .u64 b) := cell_of_block N1 1
  have y2 : w2.cell? ⟨w.heap.size + 1, 2, none⟩ = some (.int .u64 c) := cell_of_block N1 2
  have y3 : w2.cell? ⟨w.heap.size + 1, 3, none⟩ = some (.bool d) := cell_of_block N1 3
  have TH : Hid (w2.there g9 (i * 4) (#[.int .i64 a, .int .u64 b, .int .u64 c, .bool d] : Array Value).size) := Lib.hid th
  have ST := Lib.hid st
  have B2 : Hid (Below w.heap.size w w2) := Lib.hid ((B1.out.trans (((Below.refl _ w1).alloc (Nat.le_refl _) (.cells #[] 75)).mono (by rw [HZ.out]; omega))).grown hg9 (by have := HZ.out; simp; omega) (fun k hk => by injection hk with hk; have hk : w1.heap.size = k := hk; have := HZ.out; omega))
  have K0 : Hid ((w2.setCells g9 (i * 4) [.int .i64 a, .int .u64 b, .int .u64 c, .bool d]).heap[w.heap.size]? = some (.cells #[.slice A1 ms.length c1, .slice A2 n2 c2] 48 (0, 0))) := Lib.hid ((heap_setCells_ne g9 _ _ _ (by have := HZ.out; omega)).trans ((old _ (block_lt M0.out)).trans M0.out))
  have K2 : Hid ((w2.setCells g9 (i * 4) [.int .i64 a, .int .u64 b, .int .u64 c, .bool d]).heap[w.heap.size + 1 + 1]? = some (.cells #[.slice none 0 0, .slice none 0 0] 48 (0, 0))) := Lib.hid ((heap_setCells_ne g9 _ _ _ (by have := HZ.out; omega)).trans ((old _ (block_lt M2.out)).trans M2.out))
  have B3 : Hid (Below w.heap.size w (w2.setCells g9 (i * 4) [.int .i64 a, .int .u64 b, .int .u64 c, .bool d])) := Lib.hid (below_setCells B2.out _ _ _ (by have := HZ.out; omega))
  have HG : Hid (w.heap.size + 1 + 1 + 1 ≤ g9) := Lib.hid (by have := HZ.out; omega)
  have MS : Hid ((Try.prog.info? 75).map (·.size) = some (#[.int .i64 a, .int .u64 b, .int .u64 c, .bool d] : Array Value).size) := Lib.hid memSize
  have ML : Hid ((#[.int .i64 a, .int .u64 b, .int .u64 c, .bool d] : Array Value).all (·.oneCell') = true) := Lib.hid (by simp [Value.oneCell'])
  clear ho9 hg9 hc9 hA9 hB9 hgl st th old N1
  go_upto_region 3 with (refine wpList_store_mid rfl 75 (.tmp 15) (.tmp 14) rfl g9 (i * 4) #[.int .i64 a, .int .u64 b, .int .u64 c, .bool d] rfl rfl TH.out MS.out ML.out ?_)
  try simp only [List.toList_toArray]
  generalize w2.setCells g9 (i * 4) [.int .i64 a, .int .u64 b, .int .u64 c, .bool d] = w3 at *
  have z0 : w3.cell? ⟨w.heap.size, 0, none⟩ = some (.slice A1 ms.length c1) := cell_of_block K0.out 0
  have z1 : w3.cell? ⟨w.heap.size, 1, none⟩ = some (.slice A2 n2 c2) := cell_of_block K0.out 1
  have z2 : w3.cell? ⟨w.heap.size + 1 + 1, 0, none⟩ = some (.slice none 0 0) := cell_of_block K2.out 0
  have z3 : w3.cell? ⟨w.heap.size + 1 + 1, 1, none⟩ = some (.slice none 0 0) := cell_of_block K2.out 1
  have f0 := free_of_block K0.out 0
  have f2 := free_of_block K2.out 0
  have f3 := free_of_block K2.out 1
  have FIN : Hid (∃ A C, Ending.returned (.agg #[.slice (some ⟨g9, 0, none⟩) ms.length c9, .slice A2 n2 c2]) = .returned (.agg #[.slice A ms.length C, .slice A2 n2 c2]) ∧ (((w3.setCell ⟨w.heap.size, 0, none⟩ (.slice (some ⟨g9, 0, none⟩) ms.length c9)).setCell ⟨w.heap.size + 1 + 1, 0, none⟩ (.slice (some ⟨g9, 0, none⟩) ms.length c9)).setCell ⟨w.heap.size + 1 + 1, 1, none⟩ (.slice A2 n2 c2)).ownsRow w.heap.size 75 4 (.slice A ms.length C) ms.length ((ms.set i ⟨a, b, c, d⟩).map mrow).flatten ∧ Below w.heap.size w (((w3.setCell ⟨w.heap.size, 0, none⟩ (.slice (some ⟨g9, 0, none⟩) ms.length c9)).setCell ⟨w.heap.size + 1 + 1, 0, none⟩ (.slice (some ⟨g9, 0, none⟩) ms.length c9)).setCell ⟨w.heap.size + 1 + 1, 1, none⟩ (.slice A2 n2 c2))) := Lib.hid
    ⟨some ⟨g9, 0, none⟩, c9, rfl, by
      rw [List.map_set]
      refine own_same (own_base ST.out (by rw [HZ.out]; omega)) fun k hk => ?_
      injection hk with hk
      subst hk
      have := HG.out
      exact (hset_other _ _ _ (by show g9 ≠ w.heap.size + 1 + 1; omega)).trans ((hset_other _ _ _ (by show g9 ≠ w.heap.size + 1 + 1; omega)).trans (hset_other _ _ _ (by show g9 ≠ w.heap.size; omega))), ((B3.out.setCell (p := ⟨w.heap.size, 0, none⟩) (Nat.le_refl _) _).setCell (p := ⟨w.heap.size + 1 + 1, 0, none⟩) (by show w.heap.size ≤ w.heap.size + 1 + 1; omega) _).setCell (p := ⟨w.heap.size + 1 + 1, 1, none⟩) (by show w.heap.size ≤ w.heap.size + 1 + 1; omega) _⟩
  go_wp2_with fail
  exact bodyPost_ret (v := .agg #[.slice (some ⟨g9, 0, none⟩) ms.length c9, .slice A2 n2 c2]) (by simp [results, Try.results36, go_sem, z0, z1, z2, z3]) rfl FIN.out
end Go.Proofs.Ytliepgmjpbjhfaa.Drr
