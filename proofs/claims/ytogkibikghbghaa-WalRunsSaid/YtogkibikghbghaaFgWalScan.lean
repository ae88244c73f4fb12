/- Contracts of wal's Scan and Sync. Conditions: none beyond each lemma's own hypotheses. -/
import Derived.Test.YtogkibikghbghaaFgWalStep
set_option linter.unusedVariables false
set_option linter.unusedSimpArgs false
namespace Go.Proofs.Ytogkibikghbghaa.Wal
open Go.RowKit Go.Proofs.Ytogkibikghbghaa.Fg Go.Proofs.Ytogkibikghbghaa.Frame Go.Proofs.Ytogkibikghbghaa.Disk Go.Proofs.Ytogkibikghbghaa.Area

theorem mod_inc {a b n : Int} (hn : 0 < n) (ha : 0 ≤ a) (ha' : a < n) (hb : 0 ≤ b) (hb' : b < n) (hne : ¬ (a + 1) % n = b) : ((a + 1) % n - b) % n = (a - b) % n + 1 := by
  have e : (a + 1) % n = if a = n - 1 then 0 else a + 1 := by
    split
    · rename_i hh; rw [hh, Int.sub_add_cancel, Int.emod_self]
    · exact Int.emod_eq_of_lt (by omega) (by omega)
  have f : ∀ x : Int, -n < x → x < n → x % n = if x < 0 then x + n else x := by
    intro x h1 h2
    split
    · rw [← Int.add_emod_right]; exact Int.emod_eq_of_lt (by omega) (by omega)
    · exact Int.emod_eq_of_lt (by omega) (by omega)
  rw [e] at hne ⊢
  rw [f (a - b) (by omega) (by omega)]
  split at hne
  · rw [if_pos (by assumption), f _ (by omega) (by omega)]
    split <;> split <;> omega
  · rw [if_neg (by assumption), f _ (by omega) (by omega)]
    split <;> split <;> omega
theorem left_range {N : Int} {l : Lg} (h : l.ok N) : 0 ≤ l.left N ∧ l.left N ≤ 496 := by
  obtain ⟨h1, h2, h3, h4, h5⟩ := okB_in h.st
  have := h.t0
  have := h.t1
  have hn : 0 < segsN N := by rw [h5]; omega
  have hn2 : segsN N ≤ 30 := by rw [h5]; omega
  have e : usedV N l.start l.seg = (l.seg - l.start) % segsN N + 1 := if_pos ⟨h.st, h.sg⟩
  have := Int.emod_nonneg (l.seg - l.start) (by omega : segsN N ≠ 0)
  have := Int.emod_lt_of_pos (l.seg - l.start) hn
  unfold Lg.left
  rw [e]
  omega
theorem left_step {l l' : Lg} {d : Dk} {r : Rec} (h : l.ok d.st.length) (hd : d.ok) (hb : Byt d) (hs : l.step d = some (r, l')) : l'.left d.st.length < l.left d.st.length := by
  have o1 := openN_range (l := l) hd hb l.seg h.t0 h.t1
  have o2 := openN_range (l := l) hd hb (nextV d.st.length l.seg) (Int.le_refl 0) (by decide)
  have t1 := h.t1
  unfold Lg.step at hs
  split at hs
  · injection hs with hs
    injection hs with h1 h2
    subst h2
    show (segsN d.st.length - usedV d.st.length l.start l.seg) * 16 + 16 - (l.taken + l.openN d l.seg l.taken) < (segsN d.st.length - usedV d.st.length l.start l.seg) * 16 + 16 - l.taken
    omega
  · split at hs
    · cases hs
    · rename_i hne
      split at hs
      · cases hs
      · rename_i hz
        injection hs with hs
        injection hs with h1 h2
        subst h2
        obtain ⟨h1, h2, h3, h4, h5⟩ := okB_in h.st
        obtain ⟨-, -, g3, g4, -⟩ := okB_in h.sg
        have hn : 0 < segsN d.st.length := by rw [h5]; omega
        have e1 : usedV d.st.length l.start l.seg = (l.seg - l.start) % segsN d.st.length + 1 := if_pos ⟨h.st, h.sg⟩
        have e2 : usedV d.st.length l.start (nextV d.st.length l.seg) = (nextV d.st.length l.seg - l.start) % segsN d.st.length + 1 := if_pos ⟨h.st, nextV_ok h.sg⟩
        have e3 : nextV d.st.length l.seg = (l.seg + 1) % segsN d.st.length := if_pos h.sg
        have e4 := mod_inc hn g3 (by rw [h5]; exact g4) h3 (by rw [h5]; exact h4) (by rw [← e3]; exact hne)
        show (_ - usedV d.st.length l.start (nextV d.st.length l.seg)) * 16 + 16 - l.openN d (nextV d.st.length l.seg) 0 < (_ - usedV d.st.length l.start l.seg) * 16 + 16 - l.taken
        rw [e1, e2, e3, e4]
        rw [e3] at o2 hz
        omega
theorem scanF_stop (k : Nat) {l : Lg} {d : Dk} (h : l.next = 0 ∨ l.step d = none) : scanF k l d = ([], l) := by
  cases k with
  | zero => rfl
  | succ k =>
    rw [scanF]
    split
    · rfl
    · rename_i hn
      rcases h with h | h
      · exact absurd h hn
      · rw [h]
theorem scanF_go (k : Nat) {l l' : Lg} {d : Dk} {r : Rec} (h : l.next ≠ 0) (hs : l.step d = some (r, l')) : scanF (k + 1) l d = (r :: (scanF k l'.succ d).1, (scanF k l'.succ d).2) := by
  rw [scanF, if_neg h, hs]
/-- What a scan finds. -/
def scanAll (d : Dk) (epoch seq seg : Int) : List Rec × Lg := scanF 496 (Lg.new epoch seq seg) d

/-- Records in a row. -/
def recC (x : (Option Addr × Nat) × Rec) : List Value := [.int .u64 x.2.seq, .int .u32 x.2.epoch, .slice x.1.1 x.2.pay.length x.1.2]
def Recs (w : World) (B : Nat) (v : Value) (rs : List Rec) : Prop :=
  ∃ l : List ((Option Addr × Nat) × Rec), l.map Prod.snd = rs ∧ w.ownsRow B 40 3 v l.length (l.map recC).flatten ∧
    ∀ x ∈ l, Fg.Src w x.1.1 x.2.pay.length x.1.2 (bv x.2.pay) ∧ ∀ ad, x.1.1 = some ad → bv x.2.pay ≠ [] → B ≤ ad.block ∧ v.ownBlock ≠ some ad.block
theorem Recs.nil (w : World) (B : Nat) : Recs w B (.slice none 0 0) [] := ⟨[], rfl, World.ownsRow_nil _ _ _ _, fun _ h => by cases h⟩
theorem Recs.keep {S : Nat → Prop} {w w' : World} {B : Nat} {v : Value} {rs : List Rec} (h : Recs w B v rs) (hk : Keep S w w') (hS : ∀ k, S k → k < B) : Recs w' B v rs := by
  obtain ⟨l, h1, h2, h3⟩ := h
  refine ⟨l, h1, own_same h2 fun k hk' => hk.block k (h2.lt k hk').2 (fun hs => by have := hS k hs; have := (h2.lt k hk').1; omega), fun x hx => ⟨(h3 x hx).1.same fun ad had hne => ?_, (h3 x hx).2⟩⟩
  refine hk.block _ ((h3 x hx).1.lt had hne) (fun hs => ?_)
  have := hS _ hs
  have := ((h3 x hx).2 ad had hne).1
  omega
theorem Recs.push {w w' : World} {B : Nat} {v v' : Value} {l : List ((Option Addr × Nat) × Rec)} {r : Rec} {A : Option Addr} {c : Nat}
    (h3 : ∀ x ∈ l, Fg.Src w x.1.1 x.2.pay.length x.1.2 (bv x.2.pay) ∧ ∀ ad, x.1.1 = some ad → bv x.2.pay ≠ [] → B ≤ ad.block ∧ v.ownBlock ≠ some ad.block) (hs : Fg.Src w A r.pay.length c (bv r.pay))
    (hn : ∀ ad, A = some ad → bv r.pay ≠ [] → B ≤ ad.block ∧ v.ownBlock ≠ some ad.block)
    (ho : w'.ownsRow B 40 3 v' (l.length + 1) ((l.map recC).flatten ++ recC ((A, c), r)))
    (hg : w.grownBy w' v.ownBlock) (hat : v'.ownBlock = v.ownBlock ∨ v'.ownBlock = some w.heap.size) : Recs w' B v' (l.map Prod.snd ++ [r]) := by
  refine ⟨l ++ [((A, c), r)], by simp, by rw [List.map_append, List.flatten_append, List.length_append]; simpa using ho, ?_⟩
  have key : ∀ (A : Option Addr) (c : Nat) (r : Rec), Fg.Src w A r.pay.length c (bv r.pay) → (∀ ad, A = some ad → bv r.pay ≠ [] → B ≤ ad.block ∧ v.ownBlock ≠ some ad.block) →
      Fg.Src w' A r.pay.length c (bv r.pay) ∧ ∀ ad, A = some ad → bv r.pay ≠ [] → B ≤ ad.block ∧ v'.ownBlock ≠ some ad.block := by
    intro A c r hs hn
    refine ⟨hs.same fun ad had hne => hg.block _ (hs.lt had hne) (fun e => (hn ad had hne).2 e.symm), fun ad had hne => ⟨(hn ad had hne).1, fun e => ?_⟩⟩
    rcases hat with h | h
    · exact (hn ad had hne).2 (h.symm.trans e)
    · rw [h] at e
      injection e with e
      have := hs.lt had hne
      omega
  intro x hx
  rcases List.mem_append.1 hx with hx | hx
  · exact key _ _ _ (h3 x hx).1 (h3 x hx).2
  · rw [List.mem_singleton.1 hx]; exact key _ _ _ hs hn

theorem lsync_any {w : World} {lb g : Nat} {l : Lg} {d : Dk} {F : Nat → Prop} (h : IsLog w lb g l d F) :
    Calls Try.prog 14 #[.pointer (some ⟨lb, 0, none⟩)] w (TurnedE w g d.sync F d.actE) := by
  have c0 := h.cell 0
  simp only [lcells] at c0
  have SY := Lib.hid (sync_any h.disk)
  clear h
  go_enter Try.func14, Try.ntmps14
  go_wp2_with fail
  refine SY.out.mono ?_
  rintro e w1 ⟨rfl, h1⟩
  have H1 := Lib.hid h1
  clear h1
  go_wp2_with fail
  go_ret
  exact ⟨rfl, H1.out⟩
/-- What a Scan leaves. -/
def ScanE (w : World) (d : Dk) (epoch seq seg : Int) (e : Ending) (w' : World) : Prop :=
  ∃ v, e = .returned (.tuple #[v, .int .i64 (if startE d.st.length seq seg = 0 then (scanAll d epoch seq seg).2.seg else 0), .int .i64 (startE d.st.length seq seg)]) ∧
    Recs w' w.heap.size v (if startE d.st.length seq seg = 0 then (scanAll d epoch seq seg).1 else []) ∧ Below w.heap.size w w'
theorem Recs.form {w : World} {B : Nat} {v : Value} {rs : List Rec} (h : Recs w B v rs) : ∃ A n c, v = .slice A n c := by
  obtain ⟨l, h1, h2, h3⟩ := h
  obtain ⟨A, c, h, -⟩ := own_form h2
  exact ⟨A, _, c, h⟩
theorem Recs.len {w : World} {B : Nat} {A : Option Addr} {n c : Nat} {l : List ((Option Addr × Nat) × Rec)} (h : w.ownsRow B 40 3 (.slice A n c) l.length (l.map recC).flatten) : n = l.length := by
  obtain ⟨_, _, hv, _⟩ := own_form h
  injection hv
theorem IsLog.belowB {w w' : World} {lb g B : Nat} {l : Lg} {d : Dk} {F : Nat → Prop} (h : IsLog w lb g l d F) (hb : Below B w w') (hF : ∀ k, F k → k < B) (hlb : lb < B) : IsLog w' lb g l d F :=
  ⟨h.disk.same fun k hk => hb.block k (hF k hk), (hb.block _ hlb).trans h.head, h.nf, h.ok, h.byt⟩
theorem IsLog.succ {w : World} {lb g : Nat} {l : Lg} {d : Dk} {F : Nat → Prop} (h : IsLog w lb g l d F) : IsLog (w.setCell ⟨lb, 2, none⟩ (.int .u64 (IntKind.u64.wrap (l.next + 1)))) lb g l.succ d F := by
  refine ⟨h.disk.same fun k hk => hset_other _ _ _ (fun e => by have e' : k = lb := e; subst e'; exact h.nf hk), hset_at _ _ 2 _ h.head, h.nf, ?_, h.byt⟩
  have := h.ok
  exact ⟨this.e0, this.e1, by show 0 ≤ (l.next + 1) % _; omega, by show (l.next + 1) % _ < _; omega, this.st, this.sg, this.t0, this.t1⟩
theorem recInfo3 : (Try.prog.info? 40).map (fun i => (i.zero, i.size, i.bytes)) = some (some (.agg #[.int .u64 0, .int .u32 0, .slice none 0 0]), 3, 40) := by kernel_rfl
theorem recInfo2 : (Try.prog.info? 40).map (fun i => (i.zero, i.size)) = some (some (.agg #[.int .u64 0, .int .u32 0, .slice none 0 0]), 3) := by kernel_rfl
theorem own_recs {w : World} {B B' : Nat} {v : Value} {rs : List Rec} (h : Recs w B v rs) (hB : B' ≤ B) : Recs w B' v rs := by
  obtain ⟨l, h1, h2, h3⟩ := h
  exact ⟨l, h1, own_base h2 hB, fun x hx => ⟨(h3 x hx).1, fun ad had hne => ⟨Nat.le_trans hB ((h3 x hx).2 ad had hne).1, ((h3 x hx).2 ad had hne).2⟩⟩⟩

set_option maxRecDepth 100000 in
set_option maxHeartbeats 4000000 in
theorem scan_any {w : World} {g : Nat} {d : Dk} {F : Nat → Prop} (h : IsDisk w g d F) (hby : Byt d) (epoch seq seg : Int) (he : 0 ≤ epoch ∧ epoch < 4294967296) (hs : 0 ≤ seq ∧ seq < 18446744073709551616) :
    Calls Try.prog 10 #[.pointer (some ⟨g, 0, none⟩), .int .u32 epoch, .int .u64 seq, .int .i64 seg] w (ScanE w d epoch seq seg) := by
  have ST := Lib.hid (start_any h hby epoch seq seg he hs)
  clear h he hs
  go_enter Try.func10, Try.ntmps10
  go_wp2_with fail
  refine ST.out.mono ?_
  rintro e w1 ⟨A, rfl, hb1, hne, heq⟩
  have B1 := Lib.hid hb1
  by_cases hE : startE d.st.length seq seg = 0
  · obtain ⟨lb, rfl, hlb, hL⟩ := heq hE
    have HSE := Lib.hid hE
    have L1 := Lib.hid hL
    have HB1 : Hid (Below w.heap.size w w1) := Lib.hid hb1
    have HLB := Lib.hid hlb
    have HL1 := Lib.hid (block_lt hL.head)
    rw [hE]
    clear hne heq hE hL hb1 hlb ST
    go_wp2_with fail
    go_loopg [13] 496 (fun k v wr => ∃ rs l, Recs wr w1.heap.size v rs ∧ IsLog wr lb g l d F ∧ Below w.heap.size w wr ∧ scanAll d epoch seq seg = (rs ++ (scanF k l d).1, (scanF k l d).2) ∧ l.left d.st.length ≤ k ∧ w1.heap.size ≤ wr.heap.size ∧ rs.length + k = 496)
    case atStart => exact ⟨[], Lg.new epoch seq seg, Recs.nil _ _, L1.out, B1.out, by simp [scanAll], (left_range L1.out.ok).2, Nat.le_refl _, rfl⟩
    case round =>
      obtain ⟨rs, l, hr, hl, hb, hsc, hlf, hsz, hlen⟩ := hrel
      have HLEN := Lib.hid hlen
      clear hlen
      obtain ⟨A1, n1, c1, rfl⟩ := hr.form
      have HR := Lib.hid hr
      have HVB : Hid (∀ k, (Value.slice A1 n1 c1).ownBlock = some k → k < wr.heap.size) := Lib.hid (by obtain ⟨_, _, h2, _⟩ := hr; exact fun k hk => (h2.lt k hk).2)
      have HL := Lib.hid hl
      have HB := Lib.hid hb
      have HSC0 := Lib.hid hsc
      have HLF := Lib.hid hlf
      have HSZ := Lib.hid hsz
      have HLR := Lib.hid (left_range hl.ok)
      have l2 := hl.cell 2
      simp only [lcells] at l2
      have SA := Lib.hid (step_any hl)
      clear hr hl hb hsc hlf hsz
      by_cases hnx : l.next = 0
      · have HSC : Hid (scanAll d epoch seq seg = (rs, l)) := Lib.hid (by rw [HSC0.out, scanF_stop _ (.inl hnx), List.append_nil])
        have hnb : (l.next == 0) = true := beq_iff_eq.2 hnx
        have l4 := HL.out.cell 4
        simp only [lcells] at l4
        have HF : Hid (∀ k, ScanE w d epoch seq seg (.returned (.tuple #[.slice A1 n1 c1, .int .i64 l.seg, .int .i64 0])) (wr.drewN k)) := Lib.hid (by
          intro k
          refine ⟨.slice A1 n1 c1, by rw [HSE.out, if_pos rfl, HSC.out], ?_, below_drewN HB.out _⟩
          rw [HSE.out, if_pos rfl, HSC.out]
          exact own_recs (HR.out.keep ((Keep.refl (fun _ => False) wr).drewN k) (fun k h => h.elim)) HB1.out.size)
        go_wp2_with fail
        go_quiet (fail)
        go_wp2_with fail
        exact bodyPost_ret (v := .tuple #[.slice A1 n1 c1, .int .i64 l.seg, .int .i64 0]) (by simp [results, Try.results10, go_sem]) rfl (HF.out _)
      · have hnb : (l.next == 0) = false := beq_eq_false_iff_ne.2 hnx
        have HNX := Lib.hid hnx
        rcases hst : l.step d with _ | ⟨r, l'⟩
        · have HST := Lib.hid hst
          clear hst hnx
          go_wp2_with fail
          refine SA.out.mono ?_
          intro e w6 hs6
          obtain ⟨rfl, hl6, hb6⟩ := hs6.1 HST.out
          have HSC : Hid (scanAll d epoch seq seg = (rs, l)) := Lib.hid (by rw [HSC0.out, scanF_stop _ (.inr HST.out), List.append_nil])
          have HR7 := Lib.hid ((HR.out.keep (Keep.of_new (S := fun _ => False) hb6) (fun k h => h.elim)).keep ((Keep.refl (fun _ => False) w6).alloc (.cells #[.int .u64 0, .int .u32 0, .slice none 0 0] 40)) (fun k h => h.elim))
          have HL7 := Lib.hid (hl6.below ((Below.refl _ _).alloc (Nat.le_refl _) (.cells #[.int .u64 0, .int .u32 0, .slice none 0 0] 40)))
          have HB7 := Lib.hid ((HB.out.trans (hb6.mono HB.out.size)).alloc (Nat.le_trans HB.out.size hb6.size) (.cells #[.int .u64 0, .int .u32 0, .slice none 0 0] 40))
          clear hs6 hl6 hb6 SA l2
          go_upto_region 7 with fail
          generalize w6.alloc (.cells #[.int .u64 0, .int .u32 0, .slice none 0 0] 40) = w7 at *
          have l4 := HL7.out.cell 4
          simp only [lcells] at l4
          have HF : Hid (∀ k, ScanE w d epoch seq seg (.returned (.tuple #[.slice A1 n1 c1, .int .i64 l.seg, .int .i64 0])) (w7.drewN k)) := Lib.hid (by
            intro k
            refine ⟨.slice A1 n1 c1, by rw [HSE.out, if_pos rfl, HSC.out], ?_, below_drewN HB7.out _⟩
            rw [HSE.out, if_pos rfl, HSC.out]
            exact own_recs (HR7.out.keep ((Keep.refl (fun _ => False) w7).drewN k) (fun k h => h.elim)) HB1.out.size)
          go_wp2_with fail
          go_quiet (fail)
          go_wp2_with fail
          exact bodyPost_ret (v := .tuple #[.slice A1 n1 c1, .int .i64 l.seg, .int .i64 0]) (by simp [results, Try.results10, go_sem]) rfl (HF.out _)
        · have HST := Lib.hid hst
          clear hst hnx
          go_wp2_with fail
          refine SA.out.mono ?_
          intro e w6 hs6
          obtain ⟨A6, k6, rfl, hs6, hl6, hk6, hn6⟩ := hs6.2 r l' HST.out
          unfold recv
          have ok6 := step_ok (N := 0) HL.out.ok HL.out.disk.ok HL.out.byt HST.out
          have lf6 := left_step HL.out.ok HL.out.disk.ok HL.out.byt HST.out
          have lr6 := left_range ok6.1
          obtain ⟨kk, rfl⟩ : ∃ kk, gk = kk + 1 := ⟨gk - 1, by have := HLF.out; omega⟩
          have HLF2 : Hid (l'.succ.left d.st.length ≤ kk) := Lib.hid (by have := HLF.out; show l'.left d.st.length ≤ kk; omega)
          have HSC : Hid (scanAll d epoch seq seg = ((rs ++ [r]) ++ (scanF kk l'.succ d).1, (scanF kk l'.succ d).2)) := Lib.hid (by rw [HSC0.out, scanF_go kk HNX.out HST.out]; simp)
          have B6 : Hid (Below w.heap.size w w6) := Lib.hid (HB.out.trans (hk6.below HB.out.size (fun i e => e ▸ HLB.out)))
          have R8 := Lib.hid (((HR.out.keep hk6 (fun k e => e ▸ HL1.out)).keep ((Keep.refl (fun _ => False) w6).alloc (.cells #[.int .u64 r.seq, .int .u32 r.epoch, .slice A6 r.pay.length k6] 40)) (fun k h => h.elim)))
          have S7 := Lib.hid (hs6.same fun ad had hne => heap_alloc_old w6 (.cells #[.int .u64 r.seq, .int .u32 r.epoch, .slice A6 r.pay.length k6] 40) (hs6.lt had hne))
          have L7 := Lib.hid (hl6.below ((Below.refl _ _).alloc (Nat.le_refl _) (.cells #[.int .u64 r.seq, .int .u32 r.epoch, .slice A6 r.pay.length k6] 40)))
          have B7 := Lib.hid (B6.out.alloc B6.out.size (.cells #[.int .u64 r.seq, .int .u32 r.epoch, .slice A6 r.pay.length k6] 40))
          have K7 := Lib.hid (heap_alloc_at w6 (.cells #[.int .u64 r.seq, .int .u32 r.epoch, .slice A6 r.pay.length k6] 40))
          have H67 : Hid (w1.heap.size ≤ (w6.alloc (.cells #[.int .u64 r.seq, .int .u32 r.epoch, .slice A6 r.pay.length k6] 40)).heap.size) := Lib.hid (by have := HSZ.out; have := hk6.size; simp; omega)
          have N6 : Hid (∀ ad, A6 = some ad → wr.heap.size < ad.block) := Lib.hid hn6
          clear hs6 hl6 hk6 hn6 SA l2 ok6 lf6 lr6
          go_upto_region 7 with fail
          generalize w6.alloc (.cells #[.int .u64 r.seq, .int .u32 r.epoch, .slice A6 r.pay.length k6] 40) = w7 at *
          have z0 := cell_of_block K7.out 0
          have z1 := cell_of_block K7.out 1
          have z2 := cell_of_block K7.out 2
          have RA := Lib.hid (R8.out.keep ((Keep.refl (fun _ => False) w7).alloc (.cells #[.int .u64 r.seq, .int .u32 r.epoch, .slice A6 r.pay.length k6] 40)) (fun k h => h.elim))
          have SA := Lib.hid (S7.out.same fun ad had hne => heap_alloc_old w7 (.cells #[.int .u64 r.seq, .int .u32 r.epoch, .slice A6 r.pay.length k6] 40) (S7.out.lt had hne))
          have BA := Lib.hid (B7.out.alloc B7.out.size (.cells #[.int .u64 r.seq, .int .u32 r.epoch, .slice A6 r.pay.length k6] 40))
          have LA := Lib.hid (L7.out.below ((Below.refl _ _).alloc (Nat.le_refl _) (.cells #[.int .u64 r.seq, .int .u32 r.epoch, .slice A6 r.pay.length k6] 40)))
          have SS : Hid (Fg.Src (w7.alloc (.cells #[.int .u64 r.seq, .int .u32 r.epoch, .slice A6 r.pay.length k6] 40)) (some ⟨w7.heap.size, 0, none⟩) 1 1 [.int .u64 r.seq, .int .u32 r.epoch, .slice A6 r.pay.length k6]) := Lib.hid (src_rows w7 [.int .u64 r.seq, .int .u32 r.epoch, .slice A6 r.pay.length k6] _ 1 (by simp [maxLen]))
          have HA : Hid (w1.heap.size ≤ (w7.alloc (.cells #[.int .u64 r.seq, .int .u32 r.epoch, .slice A6 r.pay.length k6] 40)).heap.size) := Lib.hid (by have := H67.out; simp; omega)
          obtain ⟨rl, hrl, hrow, hrs⟩ := RA.out
          obtain rfl := Recs.len hrow
          have HROW := Lib.hid hrow
          have HRS := Lib.hid hrs
          have HRLn : Hid (rl.length ≤ 1000000) := Lib.hid (by have h1 := HLEN.out; rw [← hrl, List.length_map] at h1; omega)
          have HNB : Hid ((rl.length + 1) * 40 ≤ 140737488355328) := Lib.hid (by have := HRLn.out; omega)
          clear hrow hrs
          go_wp2_with (first
            | refine wpList_slice_one rfl 30 40 (.tmp 40) rfl 3 (.agg #[.int .u64 0, .int .u32 0, .slice none 0 0]) (.agg #[.int .u64 r.seq, .int .u32 r.epoch, .slice A6 r.pay.length k6]) rfl Try.underlying30 recInfo2 (by decide) (by decide) rfl ?_
            | (at_builtin; refine wpList_append_any rfl (.tmp 39) (.tmp 41) 30 rfl w1.heap.size 40 (.agg #[.int .u64 0, .int .u32 0, .slice none 0 0]) 3 40 Try.underlying30 recInfo3 rfl (by decide) (by decide) (.slice A1 rl.length c1) rl.length _ rfl HROW.out (some ⟨w7.heap.size, 0, none⟩) 1 1 [.int .u64 r.seq, .int .u32 r.epoch, .slice A6 r.pay.length k6] rfl SS.out rfl (by simp [Value.oneCell']) HNB.out HA.out ?_))
          intro v' w9 ho9 hg9 _ hat9
          have RP : Hid (Recs w9 w1.heap.size v' (rs ++ [r])) := Lib.hid (by
            rw [← hrl]
            refine Recs.push HRS.out SA.out (fun ad had hne => ⟨?_, fun e => ?_⟩) ho9 hg9 (by simpa using hat9)
            · have h1 := N6.out ad had; have h2 := HSZ.out; omega
            · have h1 := N6.out ad had; have h2 := HVB.out _ e; omega)
          have B9 : Hid (Below w1.heap.size (w7.alloc (.cells #[.int .u64 r.seq, .int .u32 r.epoch, .slice A6 r.pay.length k6] 40)) w9) := Lib.hid ((Below.refl _ _).grown hg9 HA.out (fun k hk => (HROW.out.lt k hk).1))
          have L9 := Lib.hid (LA.out.belowB B9.out L1.out.disk.lt HL1.out)
          have BW9 : Hid (Below w.heap.size w w9) := Lib.hid (BA.out.trans (B9.out.mono HB1.out.size))
          have H9 : Hid (w1.heap.size ≤ w9.heap.size) := Lib.hid (Nat.le_trans HA.out B9.out.size)
          clear ho9 hg9 hat9 z0 z1 z2 RA SA BA LA SS HROW HRS
          have l2 := L9.out.cell 2
          have f2 := free_of_block L9.out.head 2
          simp only [lcells] at l2
          go_wp2_with fail
          go_roundg kk
          case measure => omega
          case rel =>
            refine ⟨rs ++ [r], l'.succ, RP.out.keep ((Keep.refl (fun k => k = lb) w9).setCell ⟨lb, 2, none⟩ _ (fun _ => rfl)) (fun k e => e ▸ HL1.out), L9.out.succ, BW9.out.setCell (p := ⟨lb, 2, none⟩) HLB.out _, HSC.out, HLF2.out, ?_, ?_⟩
            · simpa using H9.out
            · have := HLEN.out; simp; omega
  · have HN : Hid (A = none) := Lib.hid (hne hE)
    have hEb : (startE d.st.length seq seg == 0) = false := beq_eq_false_iff_ne.2 hE
    have HF : Hid (ScanE w d epoch seq seg (.returned (.tuple #[.slice none 0 0, .int .i64 0, .int .i64 (startE d.st.length seq seg)])) w1) := Lib.hid (by
      refine ⟨.slice none 0 0, by rw [if_neg hE], ?_, hb1⟩
      rw [if_neg hE]
      exact Recs.nil _ _)
    clear hne heq hE
    go_wp2_with fail
    exact bodyPost_ret (v := .tuple #[.slice none 0 0, .int .i64 0, .int .i64 (startE d.st.length seq seg)]) (by simp [results, Try.results10, go_sem]) rfl HF.out
end Go.Proofs.Ytogkibikghbghaa.Wal
