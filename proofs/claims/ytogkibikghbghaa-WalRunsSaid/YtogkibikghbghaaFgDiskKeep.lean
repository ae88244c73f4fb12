/- Contracts of disk's keep, Sync and Crash. Conditions: none beyond each lemma's own hypotheses. -/
import Derived.Test.YtogkibikghbghaaFgDiskWrite
set_option linter.unusedVariables false
set_option linter.unusedSimpArgs false
namespace Go.Proofs.Ytogkibikghbghaa.Disk
open Go.RowKit Go.Proofs.Ytogkibikghbghaa.Fg

def KeepRel (w : World) (sb : Nat) (f : Nat → Bool) (d : Dk) (j : Nat) (w' : World) : Prop := Keep (fun k => k = sb) w w' ∧ Flat w' sb 77 (sv (Dk.settle f 0 d.st (d.pd.take j)))
/-- What keep leaves. -/
def Kept (w : World) (g : Nat) (f : Nat → Bool) (d : Dk) (F : Nat → Prop) (e : Ending) (w' : World) : Prop := e = .returned (.tuple #[]) ∧ Turned w g { d with st := Dk.settle f 0 d.st d.pd, pd := [] } F w'
theorem enters {P : Program} {f : FuncId} {fn : Func} {c : Code} (hf : P.funcs[f]? = some fn) (hname : (fn.name == "runtime.NumGoroutine") = false) (hb : fn.body = some c) (args : Array Value) (w : World) : (callFunc f args).run P w = .ok (.enter f args) w := by
  have h1 : fn.name ≠ "runtime.NumGoroutine" := by simpa using hname
  simp [callFunc, hf, h1, hb, mark]
theorem settle_step (f : Nat → Bool) {d : Dk} {j : Nat} {x : Nat × List Int} (hx : d.pd[j]? = some x) : Dk.settle f 0 d.st (d.pd.take (j + 1)) = if f j then (Dk.settle f 0 d.st (d.pd.take j)).set x.1 x.2 else Dk.settle f 0 d.st (d.pd.take j) := by
  have hj := (List.getElem?_eq_some_iff.1 hx).1
  have ht : d.pd.take (j + 1) = d.pd.take j ++ [x] := by rw [List.take_add_one, hx]; rfl
  rw [ht, Dk.settle_snoc, Nat.zero_add, List.length_take, Nat.min_eq_left (by omega)]
theorem settle_sec' {d : Dk} (h : d.ok) (f : Nat → Bool) (j : Nat) : ∀ s ∈ Dk.settle f 0 d.st (d.pd.take j), s.length = 64 := Dk.settle_sec f _ _ _ h.sec (fun x hx => (h.at_ x (List.mem_of_mem_take hx)).2)

set_option maxRecDepth 100000 in
set_option maxHeartbeats 2000000 in
theorem keep_any {w : World} {g : Nat} {d : Dk} {F : Nat → Prop} (h : IsDisk w g d F) (f : Nat → Bool) (K : FuncId) (cap : Array Value)
    (hent : ∀ (args : Array Value) (w : World), (callFunc K args).run Try.prog w = .ok (.enter K args) w)
    (hc : ∀ (S : Nat → Prop) w' (j : Nat), (∀ k, S k → F k) → Keep S w w' → j < d.pd.length → Calls Try.prog K (#[.int .i64 j] ++ cap) w' fun e w'' => e = .returned (.bool (f j)) ∧ w' = w'') :
    Calls Try.prog 41 #[.pointer (some ⟨g, 0, none⟩), .func (.func K) #[] cap] w (Kept w g f d F) := by
  have H0 := Lib.hid h
  have HC := Lib.hid hc
  obtain ⟨⟨sb, vp, i1, i2, i3⟩, i4, i5⟩ := h
  obtain ⟨A, c, rfl, -⟩ := own_form i1.pend
  have HR := Lib.hid (RowsAt.of_own i1.pend (pv_len fun x hx => (i1.ok.at_ x hx).2) (by decide))
  have I1 := Lib.hid i1
  have I2 := Lib.hid i2
  have HNE : Hid (∀ p, A = some ⟨p, 0, none⟩ → p ≠ sb) := Lib.hid (fun p hp => (i1.ne.2 p (by rw [hp]; rfl)).2)
  have hglt := i5 _ i4
  have hslt := i5 _ i2
  have HGS := Lib.hid i1.ne.1
  have hfew := i1.few
  have c0 : w.cell? ⟨g, 0, none⟩ = some (.slice (some ⟨sb, 0, none⟩) d.st.length d.st.length) := cell_of_block i1.head 0
  have c1 : w.cell? ⟨g, 1, none⟩ = some (.slice A d.pd.length c) := cell_of_block i1.head 1
  have HHD := Lib.hid i1.head
  clear hc i1 i2 i3 i4 i5
  go_enter Try.func41, Try.ntmps41
  go_wp2_with fail
  go_loopg [11] d.pd.length (fun k n wr => ∃ j : Nat, j + k = d.pd.length ∧ n = .int .i64 j ∧ KeepRel w sb f d j wr)
  case atStart => exact ⟨0, Nat.zero_add _, rfl, Keep.refl _ _, I1.out.stab⟩
  case round =>
    obtain ⟨j, hj, rfl, hk, hf⟩ := hrel
    have HK := Lib.hid hk
    have HF := Lib.hid hf
    clear hk hf
    by_cases hlt : j < d.pd.length
    · obtain ⟨x, hx⟩ : ∃ x, d.pd[j]? = some x := ⟨_, List.getElem?_eq_getElem hlt⟩
      obtain ⟨p, rfl, hp1, hp2⟩ := HR.out j (wrow x) (by rw [pv, List.getElem?_map, hx]; rfl)
      have hx64 : x.1 < d.st.length ∧ x.2.length = 64 := I1.out.ok.at_ x (List.mem_of_getElem? hx)
      have hps := HNE.out p rfl
      have ST := Lib.hid (settle_step f hx)
      have R0 := Lib.hid (heap_alloc_at wr (.cells (.int .i64 0 :: bv noSec).toArray 114))
      have R1 := Lib.hid (setRow_at (wrow x).toArray R0.out)
      have hws := HK.out.size
      have R2 : Hid (Below wr.heap.size wr ((wr.alloc (.cells (.int .i64 0 :: bv noSec).toArray 114)).setRow wr.heap.size (wrow x).toArray)) := Lib.hid (below_setRow ((Below.refl _ _).alloc (Nat.le_refl _) _) (Nat.le_refl _) _)
      have HPR : Hid (wr.rangeAt p (j * 65) (wrow x)) := Lib.hid (fun i v hv => (HK.out.cell (p := ⟨p, j * 65 + i, none⟩) hp1 hps).trans (hp2 i v hv))
      have Y1 := Lib.hid (wr_load x hx64.2)
      have Y2 := Lib.hid (wr_size x hx64.2)
      have Y3 : Hid ((.int .i64 0 :: bv noSec).toArray.size = (wrow x).toArray.size) := Lib.hid (by simp [wrow, bv, hx64.2, noSec])
      have Y4 := Lib.hid (wrow_one x)
      have HX := Lib.hid hx64
      clear hx hp2 hx64 hps
      go_upto_region 3 with (first
        | refine wpList_load_mid rfl 114 (.tmp 14) rfl p (j * 65) rfl (wrow x) _ HPR.out Try.underlying114 rfl Y1.out ?_
        | refine wpList_alloc_as rfl 114 rfl (.int .i64 0 :: bv noSec).toArray wrZero ?_
        | refine wpList_store_block rfl 114 (.tmp 5) (.tmp 15) rfl wr.heap.size (wrow x).toArray rfl rfl (.int .i64 0 :: bv noSec).toArray 114 R0.out Y2.out Y3.out Y4.out ?_)
      generalize (wr.alloc (.cells (.int .i64 0 :: bv noSec).toArray 114)).setRow wr.heap.size (wrow x).toArray = w9 at *
      have K9 : Hid (Keep (fun k => k = sb) w w9) := Lib.hid (HK.out.trans (Keep.of_new R2.out) (fun i _ h => h))
      have hs9 := R2.out.size
      have hw9 : wr.heap.size < w9.heap.size := block_lt R1.out
      have F9 : Hid (Flat w9 sb 77 (sv (Dk.settle f 0 d.st (d.pd.take j)))) := Lib.hid (HF.out.same (R2.out.block _ (by omega)))
      have CC := Lib.hid (HC.out (fun k => k = sb) w9 j (fun k hk => hk ▸ I2.out) K9.out hlt)
      cases hfj : f j with
      | false =>
        have CC' := CC
        rw [hfj] at CC'
        have ST' := Lib.hid (ST.out.trans (if_neg (by rw [hfj]; decide)))
        clear hfj CC ST
        go_wp2_with fail
        refine CC'.out.mono ?_
        rintro e w' ⟨rfl, rfl⟩
        go_wp2_with fail
        go_roundg (gk - 1)
        case measure => omega
        case rel => exact ⟨j + 1, by omega, by go_num, K9.out, by rw [ST'.out]; exact F9.out⟩
      | true =>
        have CC' := CC
        rw [hfj] at CC'
        have ST' := Lib.hid (ST.out.trans (if_pos hfj))
        clear hfj CC ST
        go_wp2_with fail
        refine CC'.out.mono ?_
        rintro e w' ⟨rfl, rfl⟩
        have q0 : w9.cell? ⟨wr.heap.size, 0, none⟩ = some (.int .i64 x.1) := cell_of_block R1.out 0
        have q1 : w9.rangeAt wr.heap.size 1 (bv x.2) := fun i v hv => by rw [cell_of_block R1.out, List.getElem?_toArray, wrow, Nat.add_comm 1 i, List.getElem?_cons_succ]; exact hv
        have q2 : w9.cell? ⟨g, 0, none⟩ = some (.slice (some ⟨sb, 0, none⟩) d.st.length d.st.length) := (K9.out.cell (p := ⟨g, 0, none⟩) hglt HGS.out).trans c0
        have hsl := settle_sec' I1.out.ok f j
        have hlen : (Dk.settle f 0 d.st (d.pd.take j)).length = d.st.length := Dk.length_settle _ _ _ _
        have q3 : w9.there sb (x.1 * 64) 64 := F9.out.there (sv_len hsl) x.1 (by rw [sv, List.length_map, hlen]; exact HX.out.1)
        have NF : Hid (Flat (w9.drew.setCells sb (x.1 * 64) (bv x.2)) sb 77 (sv (Dk.settle f 0 d.st (d.pd.take (j + 1))))) := Lib.hid (by
          rw [ST'.out, show sv ((Dk.settle f 0 d.st (d.pd.take j)).set x.1 x.2) = (sv (Dk.settle f 0 d.st (d.pd.take j))).set x.1 (bv x.2) by rw [sv, sv, List.map_set]]
          exact Flat.store (w := w9.drew) F9.out (sv_len hsl) x.1 (by rw [sv, List.length_map, hlen]; exact HX.out.1) (bv x.2) (by rw [bv_length, HX.out.2]))
        have NK : Hid (Keep (fun k => k = sb) w (w9.drew.setCells sb (x.1 * 64) (bv x.2))) := Lib.hid (K9.out.drew.setCells _ _ _ (fun _ => rfl))
        have hU : Try.prog.underlying 77 = some (.array 64 5) := secUnder
        have hZ1 : (Try.prog.info? 77).map (·.size) = some (bv x.2).length := by rw [secSize, bv_length, HX.out.2]
        have hZ2 : (Try.prog.info? 77).map (·.size) = some (bv x.2).toArray.size := sec_toArray HX.out.2
        have hZ3 : (bv x.2).length = 64 := by rw [bv_length, HX.out.2]
        have hZ4 : ∀ v ∈ bv x.2, v.oneCell' = true := bv_one x.2
        have hx1 : (x.1 : Int) < (d.st.length : Int) := by have := HX.out.1; omega
        have hx0 : (0 : Int) ≤ (x.1 : Int) := by omega
        have hgb : (w9.drew.setCells sb (x.1 * 64) (bv x.2)).heap[g]? = w9.heap[g]? := heap_setCells_ne sb _ _ w9.drew HGS.out
        have hwb : (w9.drew.setCells sb (x.1 * 64) (bv x.2)).heap[wr.heap.size]? = w9.heap[wr.heap.size]? := heap_setCells_ne sb _ _ w9.drew (by omega)
        have QS := Lib.hid (And.intro ((World.cell?_of_block (a := ⟨g, 0, none⟩) hgb).trans q2) (And.intro ((World.cell?_of_block (a := ⟨wr.heap.size, 0, none⟩) hwb).trans q0)
          (And.intro (fun i v hv => (World.cell?_of_block (a := ⟨wr.heap.size, 1 + i, none⟩) hwb).trans (q1 i v hv) : (w9.drew.setCells sb (x.1 * 64) (bv x.2)).rangeAt wr.heap.size 1 (bv x.2)) (World.there_setCells (w := w9.drew) q3 sb (x.1 * 64) (bv x.2)))))
        clear hsl hlen ST' hgb hwb
        go_upto_region 4 with fail
        go_region_held3 (fun w' => w'.cell? ⟨g, 0, none⟩ = some (.slice (some ⟨sb, 0, none⟩) d.st.length d.st.length) ∧ w'.cell? ⟨wr.heap.size, 0, none⟩ = some (.int .i64 x.1) ∧ w'.rangeAt wr.heap.size 1 (bv x.2) ∧ w'.there sb (x.1 * 64) 64)
          (first | exact ⟨q2, q0, q1, q3⟩ | exact QS.out) ((fail))
        go_wp2_with fail
        go_roundg (gk - 1)
        case measure => omega
        case rel => exact ⟨j + 1, by omega, by go_num, NK.out, NF.out⟩
    · have e : j = d.pd.length := by omega
      subst e
      rw [List.take_length] at HF
      have hgb : wr.heap[g]? = w.heap[g]? := HK.out.block g hglt HGS.out
      have k1 : wr.cell? ⟨g, 1, none⟩ = some (.slice A d.pd.length c) := (World.cell?_of_block (a := ⟨g, 1, none⟩) hgb).trans c1
      have f1 := free_of_block (hgb.trans HHD.out) 1
      have NH : Hid ((wr.setCell ⟨g, 1, none⟩ (.slice none 0 0)).heap[g]? = some (.cells #[.slice (some ⟨sb, 0, none⟩) d.st.length d.st.length, .slice none 0 0, .int .i64 d.left, .bool d.down] 83)) := Lib.hid (hset_at wr g 1 _ (hgb.trans HHD.out))
      have HSB := Lib.hid (I1.out.ne.1)
      clear hgb
      go_wp2_with fail
      go_end0
      have hws := HK.out.size
      refine ⟨rfl, (fun k => k = g ∨ k = sb), ⟨⟨sb, .slice none 0 0, ⟨⟨Dk.settle_sec f _ _ _ I1.out.ok.sec (fun x hx => (I1.out.ok.at_ x hx).2), (fun x hx => by cases hx), I1.out.ok.left⟩, ⟨by show (Dk.settle f 0 d.st d.pd).length ≤ 512; rw [Dk.length_settle]; exact I1.out.few.1, by show ([] : List (Nat × List Int)).length ≤ _; simp⟩, ?_, HF.out.same (hset_other _ _ _ (fun e => HSB.out e.symm)), World.ownsRow_nil _ _ _ _⟩, .inr rfl, (fun k hk => by cases hk)⟩, .inl rfl, ?_⟩, ?_, ?_⟩
      · show (wr.setCell ⟨g, 1, none⟩ (.slice none 0 0)).heap[g]? = some (.cells #[.slice (some ⟨sb, 0, none⟩) (Dk.settle f 0 d.st d.pd).length (Dk.settle f 0 d.st d.pd).length, .slice none 0 0, .int .i64 d.left, .bool d.down] 83)
        rw [Dk.length_settle]
        exact NH.out
      · intro k hk
        have h1 := H0.out.lt g H0.out.self
        have h2 := H0.out.lt sb I2.out
        simp only [World.size_setCell]
        rcases hk with rfl | rfl <;> omega
      · exact (HK.out.mono (fun i _ h => h ▸ I2.out)).setCell _ _ (fun _ => H0.out.self)
      · rintro k (rfl | rfl)
        · exact .inl H0.out.self
        · exact .inl I2.out

theorem sync1_any (j : Nat) (w : World) : Calls Try.prog 63 (#[.int .i64 j] ++ #[]) w fun e w' => e = .returned (.bool true) ∧ w = w' := by
  show Calls Try.prog 63 #[.int .i64 j] w _
  go_enter Try.func63, Try.ntmps63
  go_wp2_with fail
  go_ret
  exact ⟨rfl, rfl⟩
theorem sync_any {w : World} {g : Nat} {d : Dk} {F : Nat → Prop} (h : IsDisk w g d F) :
    Calls Try.prog 40 #[.pointer (some ⟨g, 0, none⟩)] w (TurnedE w g d.sync F d.actE) := by
  have AC := Lib.hid (act_any h)
  have hent := fun (args : Array Value) (w : World) => enters (P := Try.prog) Try.func63 (by decide) rfl args w
  have HE := Lib.hid hent
  clear h hent
  by_cases ha : d.actE = 0
  · have hae : (d.actE == 0) = true := beq_iff_eq.2 ha
    have SY : Hid (d.sync = { d.act with st := Dk.settle (fun _ => true) 0 d.act.st d.act.pd, pd := [] }) := Lib.hid ((if_pos ha).trans (by rw [Dk.act_st, Dk.act_pd]))
    clear ha
    go_enter Try.func40, Try.ntmps40
    go_wp2_with fail
    refine AC.out.mono ?_
    rintro e w1 ⟨rfl, F1, h1, k1, hF1⟩
    have H1 := Lib.hid h1
    have K1 := Lib.hid k1
    have HF1 := Lib.hid hF1
    clear h1 k1 hF1
    go_wp2_with fail
    refine (keep_any H1.out (fun _ => true) _ #[] HE.out (fun S w' j _ _ _ => sync1_any j w')).mono ?_
    rintro e w2 ⟨rfl, ht⟩
    have HT := Lib.hid (Turned.trans K1.out HF1.out ht)
    clear ht
    go_wp2_with fail
    go_ret
    exact ⟨rfl, by rw [SY.out]; exact HT.out⟩
  · have hae : (d.actE == 0) = false := beq_eq_false_iff_ne.2 ha
    have SY : Hid (d.sync = d.act) := Lib.hid (if_neg ha)
    clear ha
    go_enter Try.func40, Try.ntmps40
    go_wp2_with fail
    refine AC.out.mono ?_
    rintro e w1 ⟨rfl, ht⟩
    have HT := Lib.hid ht
    clear ht
    go_wp2_with fail
    go_ret
    exact ⟨rfl, by rw [SY.out]; exact HT.out⟩

def blv (l : List Bool) : List Value := l.map Value.bool
theorem crash1_any (l : List Bool) (A : Option Addr) (c b : Nat) (j : Nat) (w : World) (hs : Fg.Src w A l.length c (blv l)) (hb : w.cell? ⟨b, 0, none⟩ = some (.slice A l.length c)) :
    Calls Try.prog 42 (#[.int .i64 j] ++ #[.pointer (some ⟨b, 0, none⟩)]) w fun e w' => e = .returned (.bool (l.getD j false)) ∧ w = w' := by
  show Calls Try.prog 42 #[.int .i64 j, .pointer (some ⟨b, 0, none⟩)] w _
  by_cases hj : j < l.length
  · cases A with
    | none => have := (hs.nil rfl).1; omega
    | some ad =>
      have hc : w.cell? (ad.add j) = some (.bool l[j]) := hs.cells ad rfl j _ (by simp [blv, hj])
      have hm := hs.most
      have hm2 := hs.cap
      unfold maxLen at hm
      have HL : Hid (l.getD j false = l[j]) := Lib.hid (by simp [hj])
      have hj' : (j : Int) < (l.length : Int) := by omega
      clear hs
      generalize l[j] = x at *
      go_enter Try.func42, Try.ntmps42
      go_wp2_with fail
      go_ret
      exact ⟨ret_bool HL.out.symm, rfl⟩
  · have HL : Hid (l.getD j false = false) := Lib.hid (by rw [List.getD_eq_getElem?_getD, List.getElem?_eq_none (by omega)]; rfl)
    have hj' : ¬ (j : Int) < (l.length : Int) := by omega
    clear hs
    go_enter Try.func42, Try.ntmps42
    go_wp2_with fail
    go_ret
    first | exact ⟨ret_bool HL.out.symm, rfl⟩ | exact ⟨rfl, rfl⟩
/-- The head's last two cells are others. -/
theorem IsDisk.set2 {w : World} {g : Nat} {d d' : Dk} {F : Nat → Prop} (h : IsDisk w g d F) (hok : d'.ok) (hst : d'.st = d.st) (hpd : d'.pd = d.pd) :
    Turned w g d' F ((w.setCell ⟨g, 2, none⟩ (.int .i64 d'.left)).setCell ⟨g, 3, none⟩ (.bool d'.down)) := by
  obtain ⟨F1, h1, k1, f1⟩ := h.set (d' := { d with left := d'.left }) 2 (.int .i64 d'.left) ⟨h.ok.sec, h.ok.at_, hok.left⟩ rfl rfl (fun x y => rfl)
  exact Turned.trans k1 f1 (h1.set (d' := d') 3 (.bool d'.down) hok hst hpd (fun x y => rfl))
theorem crash_any {w : World} {g : Nat} {d : Dk} {F : Nat → Prop} (h : IsDisk w g d F) (l : List Bool) (A : Option Addr) (c : Nat) (hs : Fg.Src w A l.length c (blv l)) (hn : ∀ ad, A = some ad → ¬ F ad.block) :
    Calls Try.prog 17 #[.pointer (some ⟨g, 0, none⟩), .slice A l.length c] w fun e w' => e = .returned (.tuple #[]) ∧ Turned w g (d.crash l) F w' := by
  have hent := fun (args : Array Value) (w : World) => enters (P := Try.prog) Try.func42 (by decide) rfl args w
  have HE := Lib.hid hent
  have H0 := Lib.hid h
  have H1 := Lib.hid (h.below ((Below.refl _ _).alloc (Nat.le_refl _) (.cells #[.slice A l.length c] 43)))
  have B1 : Hid (Below w.heap.size w (w.alloc (.cells #[.slice A l.length c] 43))) := Lib.hid ((Below.refl _ _).alloc (Nat.le_refl _) _)
  have K0 := Lib.hid (heap_alloc_at w (.cells #[.slice A l.length c] 43))
  have HS := Lib.hid hs
  have HN := Lib.hid hn
  have hmf : ∀ (fn : Fn) (first cap : Array Value) (w : World), (Instr.makeFunc fn first cap).run Try.prog w = .ok (.func fn first cap) w := fun _ _ _ _ => rfl
  clear h hs hn hent
  go_enter Try.func17, Try.ntmps17
  go_wp2_with fail
  generalize w.alloc (.cells #[.slice A l.length c] 43) = w1 at *
  refine (keep_any H1.out (fun j => l.getD j false) _ #[.pointer (some ⟨w.heap.size, 0, none⟩)] HE.out (fun S w' j hSF hk _ => crash1_any l A c w.heap.size j w' ?_ ?_)).mono ?_
  · have h1 : Fg.Src w1 A l.length c (blv l) := HS.out.same fun ad had hne => B1.out.block _ (HS.out.lt had hne)
    exact h1.keep hk (fun ad had hS => HN.out ad had (hSF _ hS))
  · exact (hk.cell (p := ⟨w.heap.size, 0, none⟩) (block_lt K0.out) (fun hS => Nat.lt_irrefl _ (H0.out.lt _ (hSF _ hS)))).trans (cell_of_block K0.out 0)
  rintro e w2 ⟨rfl, F2, h2, k2, f2⟩
  have H2 := Lib.hid h2
  have K2 := Lib.hid k2
  have F2' := Lib.hid f2
  obtain ⟨⟨sb, vp, i1, -⟩, -⟩ := h2
  have c2 : w2.cell? ⟨g, 2, none⟩ = some (.int .i64 d.left) := cell_of_block i1.head 2
  have c3 : w2.cell? ⟨g, 3, none⟩ = some (.bool d.down) := cell_of_block i1.head 3
  have g2 := free_of_block i1.head 2
  have g3 := free_of_block i1.head 3
  clear k2 f2 i1 hmf
  go_wp2_with fail
  go_end0
  have ht := H2.out.set2 (d' := d.crash l) (Dk.crash_ok H0.out.ok l) rfl rfl
  have k1 : Keep F w w1 := Keep.of_new B1.out
  refine ⟨rfl, Turned.trans (k1.trans K2.out (fun i hi h => h)) (fun k hk => ?_) ht⟩
  rcases F2'.out k hk with h | h
  · exact .inl h
  · right; have := k1.size; omega
end Go.Proofs.Ytogkibikghbghaa.Disk
