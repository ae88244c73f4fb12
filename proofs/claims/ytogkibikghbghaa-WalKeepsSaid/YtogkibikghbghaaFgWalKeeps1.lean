/- The walk of WalKeeps: what is synced is found. Conditions: none beyond each lemma's own hypotheses. -/
import Derived.Test.YtogkibikghbghaaFgWalMade
import Derived.Test.YtogkibikghbghaaFgWalKeepsPure
import Derived.Test.YtogkibikghbghaaFgWalArgs
set_option linter.unusedVariables false
set_option linter.unusedSimpArgs false
namespace Go.Proofs.Ytogkibikghbghaa.Wal
open Go.RowKit Go.Proofs.Ytogkibikghbghaa.Fg Go.Proofs.Ytogkibikghbghaa.Frame Go.Proofs.Ytogkibikghbghaa.Disk Go.Proofs.Ytogkibikghbghaa.Area Go.ChangeShapes Go.WideShapes Go.ChangeAt

theorem MadeR.fresh {W w : World} {lb : Nat} {F : Nat → Prop} (hF : ∀ k, F k → k < w.heap.size) (hlb : lb < w.heap.size) (hW : W.heap.size ≤ w.heap.size) :
    MadeR W (w.alloc (.cells #[] 40)) lb F (.slice (some ⟨w.heap.size, 0, none⟩) 0 0) [] :=
  ⟨[], rfl, World.ownsRow_made w #[] 0 hW (Nat.zero_le _) rfl, (fun b hb => by
    have hb : w.heap.size = b := by simpa [Value.ownBlock] using hb
    exact ⟨fun hf => absurd (hF b hf) (by omega), by omega⟩), fun _ h => by cases h⟩
theorem scanF_small : ∀ (k : Nat) (l : Lg) (d : Dk), l.ok d.st.length → d.ok → Byt d → ∀ x ∈ (scanF k l d).1, Crc.Small x.pay
  | 0, l, d, _, _, _, x, hx => by simp [scanF] at hx
  | k + 1, l, d, hl, hd, hb, x, hx => by
    rw [scanF] at hx
    split at hx
    · simp at hx
    · split at hx
      · simp at hx
      · rename_i r l' hs
        obtain ⟨o1, o2, o3, -⟩ := step_ok (N := 0) hl hd hb hs
        rcases List.mem_cons.1 hx with rfl | hx
        · exact o3.small
        · exact scanF_small k l'.succ d ⟨o1.e0, o1.e1, by show 0 ≤ (l'.next + 1) % _; omega, by show (l'.next + 1) % _ < _; omega, o1.st, o1.sg, o1.t0, o1.t1⟩ hd hb x hx
/-- A log and its disk beside what was made. -/
structure KM (W w : World) (lb g : Nat) (v : Value) (l : Lg) (d : Dk) (F : Nat → Prop) (rs : List Rec) : Prop where
  ls : LS W w lb g l d F
  made : MadeR W w lb F v rs
theorem KM.step {W w w' : World} {lb g : Nat} {v : Value} {l : Lg} {d : Dk} {F : Nat → Prop} {rs : List Rec} (h : KM W w lb g v l d F rs) (hb : Below w.heap.size w w') : KM W w' lb g v l d F rs := ⟨h.ls.below hb, h.made.below hb⟩
theorem KM.turn {W w w' : World} {lb g : Nat} {v : Value} {l : Lg} {d d' : Dk} {F : Nat → Prop} {rs : List Rec} (h : KM W w lb g v l d F rs) (t : Turned w g d' F w') (hs : d'.st.length = d.st.length) (hb : Byt d') : ∃ F', KM W w' lb g v l d' F' rs := by
  obtain ⟨F', h1, h2, h3⟩ := t
  have hlt := block_lt h.ls.1.head
  exact ⟨F', ⟨⟨h1, (h2.block _ hlt h.ls.1.nf).trans h.ls.1.head, fun hk => (h3 _ hk).elim h.ls.1.nf (fun hk => absurd hlt (Nat.not_lt.2 hk)), by rw [hs]; exact h.ls.1.ok, hb⟩, h.ls.2.1.trans (h2.below h.ls.2.1.size h.ls.2.2.1), fun k hk => (h3 k hk).elim (h.ls.2.2.1 k) (Nat.le_trans h.ls.2.1.size), h.ls.2.2.2⟩,
    h.made.turn (h2.mono (fun i _ h => .inl h)) h3⟩
theorem KM.app {W w w' : World} {lb g : Nat} {v : Value} {l : Lg} {d : Dk} {F : Nat → Prop} {rs : List Rec} (h : KM W w lb g v l d F rs) {p : List Int} {e : Ending} (a : AppE w lb g l d F p e w') {A : Option Addr} {c : Nat} {B : Nat}
    (hs : Fg.Src w A p.length c (bv p)) (hB : ∀ ad, A = some ad → ad.block = B) (hBF : ¬ F B) (hBl : B ≠ lb) (hBv : v.ownBlock ≠ some B) (hBW : W.heap.size ≤ B) :
    e = .returned (.tuple #[.int .u64 (l.appN d p), .int .i64 (l.appE d p)]) ∧ ∃ F', KM W w' lb g v (l.appL d p) (l.appD d p) F' rs ∧ Fg.Src w' A p.length c (bv p) ∧
      ∀ ad, A = some ad → bv p ≠ [] → W.heap.size ≤ ad.block ∧ v.ownBlock ≠ some ad.block ∧ ¬ F' ad.block ∧ ad.block ≠ lb := by
  obtain ⟨he, -⟩ := h.ls.app a
  obtain ⟨F', -, h2, h3, h4⟩ := a
  have h5 : LS W w' lb g (l.appL d p) (l.appD d p) F' := ⟨h2, h.ls.2.1.trans (h3.below h.ls.2.1.size (fun i hi => hi.elim (h.ls.2.2.1 i) (fun e => e ▸ h.ls.2.2.2))), fun k hk => (h4 k hk).elim (h.ls.2.2.1 k) (Nat.le_trans h.ls.2.1.size), h.ls.2.2.2⟩
  refine ⟨he, F', ⟨h5, h.made.turn h3 h4⟩, hs.same fun ad had hne => h3.block _ (hs.lt had hne) (fun hh => ?_), fun ad had hne => ?_⟩
  · rw [hB ad had] at hh
    exact hh.elim hBF hBl
  · have hlt := hs.lt had hne
    rw [hB ad had] at hlt ⊢
    exact ⟨hBW, hBv, fun hf => (h4 _ hf).elim hBF (fun hge => absurd hlt (Nat.not_lt.2 hge)), hBl⟩
theorem KM.new {W w : World} {lb g : Nat} {v : Value} {l : Lg} {d : Dk} {F : Nat → Prop} {rs : List Rec} (h : KM W w lb g v l d F rs) : W.heap.size ≤ w.heap.size ∧ ¬ F w.heap.size ∧ w.heap.size ≠ lb ∧ v.ownBlock ≠ some w.heap.size := by
  refine ⟨h.ls.2.1.size, fun hf => absurd (h.ls.1.disk.lt _ hf) (Nat.lt_irrefl _), fun e => ?_, fun e => ?_⟩
  · have := block_lt h.ls.1.head; omega
  · obtain ⟨_, _, hrow, _⟩ := h.made
    have := (hrow.lt _ e).2; omega
def KRel (W : World) (lb g N j : Nat) (v s : Value) (w : World) : Prop := ∃ (k : Nat) (l : Lg) (d : Dk) (F : Nat → Prop) (rs : List Rec), s = .int .i64 k ∧ KM W w lb g v l d F rs ∧ KpL N j k l d rs
def KSw (W : World) (lb g N j : Nat) (v s : Value) (w : World) : Prop := ∃ (k : Nat) (l : Lg) (d : Dk) (F : Nat → Prop) (rs : List Rec), s = .int .i64 k ∧ KM W w lb g v l d F rs ∧ ((d.down = false ∧ KpL N j k l d rs) ∨ (d.down = true ∧ KpS N k d rs))
def KEnd (W : World) (lb g N : Nat) (v s : Value) (w : World) : Prop := ∃ (k : Nat) (l : Lg) (d : Dk) (F : Nat → Prop) (rs : List Rec), s = .int .i64 k ∧ KM W w lb g v l d F rs ∧ KpS N k d rs

set_option maxRecDepth 100000 in
set_option maxHeartbeats 4000000 in
theorem keeps_law (n : Int) (hn : (Lit.int .i64 n).wf = true) (A : Option Addr) (c : Nat) (l : List Act1) (Ak : Option Addr) (ck : Nat) (keep : List Bool) (W : World) (hlc : l.length ≤ c) (hcm : c ≤ maxLen) (hs : Acts W A l) (hsk : Fg.Src W Ak keep.length ck (blv keep)) :
    Calls Try.prog 5 #[.int .i64 n, .slice A l.length c, .slice Ak keep.length ck] W fun e w' => e = .returned (.bool true) ∧ Below W.heap.size W w' := by
  have hw : -9223372036854775808 ≤ n ∧ n ≤ 9223372036854775807 := by simpa [Lit.wf, IntKind.min, IntKind.max, IntKind.signed, IntKind.bits] using hn
  have HS := Lib.hid hs
  have HSK := Lib.hid hsk
  have hm := hcm
  unfold maxLen at hm
  clear hs hn hsk hcm
  go_enter Try.func5, Try.ntmps5
  go_wp2_with fail
  refine (alive_any W).mono ?_
  rintro e w0 ⟨rfl, hb0⟩
  have HB0 := Lib.hid hb0
  clear hb0
  by_cases h0 : n < 64
  · go_wp2_with fail
    go_ret
    exact ⟨rfl, HB0.out⟩
  by_cases h1 : 140 < n
  · go_wp2_with fail
    go_ret
    exact ⟨rfl, HB0.out⟩
  by_cases h2 : (60 : Int) < l.length
  · go_wp2_with fail
    go_ret
    exact ⟨rfl, HB0.out⟩
  obtain ⟨N, rfl⟩ : ∃ N : Nat, n = N := ⟨n.toNat, by omega⟩
  have HN : Hid (64 ≤ N ∧ N ≤ 140) := Lib.hid (by omega)
  have HL : Hid (l.length ≤ 60) := Lib.hid (by omega)
  have c0 : decide ((N : Int) < 64) = false := decide_eq_false h0
  have c1 : decide ((140 : Int) < N) = false := decide_eq_false h1
  have c2 : decide ((60 : Int) < l.length) = false := decide_eq_false h2
  go_wp2_with fail
  clear c0 c1 c2
  refine (new_any N N _ (by rw [if_neg (by omega), if_neg (by omega)])).mono ?_
  rintro e w1 ⟨g, F, rfl, hd, hb, hF⟩
  have HF := Lib.hid hF
  have B1 : Hid (Below W.heap.size W w1) := Lib.hid (HB0.out.trans (hb.mono HB0.out.size))
  have S1 := Lib.hid HB0.out.size
  have ST := Lib.hid (start_any hd (Byt.new N) 9 100 0 (by decide) (by decide))
  have HNL : Hid ((Dk.new N).st.length = N) := Lib.hid (by simp [Dk.new])
  have HOK : Hid (okB (N : Int) 0 = true) := Lib.hid (by
    unfold okB segsN
    have := HN.out
    rw [if_pos (by omega)]
    simp only [Bool.and_eq_true, decide_eq_true_eq]
    omega)
  have HSE : Hid (startE (Dk.new N).st.length 100 0 = 0) := Lib.hid (by rw [HNL.out, startE, if_pos HOK.out, if_neg (by decide)])
  clear hd hb hF
  go_wp2_with fail
  refine ST.out.mono ?_
  rintro e w2 ⟨A2, rfl, hb2, -, heq⟩
  obtain ⟨lb, rfl, hlb, hL⟩ := heq HSE.out
  have hLS : LS W w2 lb g (Lg.new 9 100 0) (Dk.new N) F := ⟨hL, B1.out.trans (hb2.mono B1.out.size), fun k hk => Nat.le_trans S1.out (HF.out k hk), Nat.le_trans B1.out.size hlb⟩
  have h9 : l9.ok N := by have := hL.ok; rw [HNL.out] at this; exact this
  have R2 : Hid (KRel W lb g N 0 (.slice (some ⟨w2.heap.size, 0, none⟩) 0 0) (.int .i64 0) (w2.alloc (.cells #[] 40))) := Lib.hid
    ⟨0, _, _, F, [], rfl, ⟨hLS.below ((Below.refl _ _).alloc (Nat.le_refl _) _), MadeR.fresh hL.disk.lt (block_lt hL.head) hLS.2.1.size⟩, KpL.new h9⟩
  rw [HSE.out]
  clear hb2 heq hlb hL ST hLS h9
  have ENV := Lib.hid (fun (w' : World) (hb : Below W.heap.size W w') => HS.out.below hb)
  go_upto_block 0 with fail
  go_cut [10, 11] (fun v s wx => KEnd W lb g N v s wx)
  case first =>
    go_wp2_with fail
    go_loopg [46, 10, 11] l.length (fun k i v s wr => ∃ j : Nat, j + k = l.length ∧ i = .int .i64 j ∧ KRel W lb g N j v s wr)
    case atStart => exact ⟨0, Nat.zero_add _, rfl, R2.out⟩
    case round =>
      obtain ⟨j, hj, rfl, k, l3, d3, F3, rs, rfl, hkm, hkp⟩ := hrel
      have M3 := Lib.hid hkm
      have P3 := Lib.hid hkp
      clear hkm hkp R2
      by_cases hlt : j < l.length
      · obtain ⟨⟨ki, at0, by0, ke⟩, ha⟩ : ∃ a, l[j]? = some a := ⟨_, List.getElem?_eq_getElem hlt⟩
        obtain ⟨b, o, A', c', rfl, hrg0, hsk, hbl, hat⟩ := HS.out.each j _ ha
        simp only at hrg0 hat
        have hrg : wr.rangeAt b (o + j * 4) [.int .i64 ki, .int .i64 at0, .int .u8 by0, .slice A' ke.length c'] := fun i v hv => (M3.out.ls.2.1.cell (p := ⟨b, o + j * 4 + i, none⟩) hbl).trans (hrg0 i v hv)
        have HRG := Lib.hid hrg
        have HAT := Lib.hid hat
        have Y1 : Hid ((Try.prog.info? 45).map (·.size) = some ([.int .i64 ki, .int .i64 at0, .int .u8 by0, .slice A' ke.length c'] : List Value).length) := Lib.hid (by kernel_rfl)
        have M4 := Lib.hid (M3.out.step ((Below.refl _ _).alloc (Nat.le_refl _) (Obj.cells #[.int .i64 ki, .int .i64 at0, .int .u8 by0, .slice A' ke.length c'] 45)))
        have HAB := Lib.hid (heap_alloc_at wr (Obj.cells #[.int .i64 ki, .int .i64 at0, .int .u8 by0, .slice A' ke.length c'] 45))
        clear ha hrg hsk hat hrg0
        go_upto_block 2 with (refine wpList_load_mid rfl 45 (.tmp 48) rfl b (o + j * 4) rfl [.int .i64 ki, .int .i64 at0, .int .u8 by0, .slice A' ke.length c'] _ HRG.out Try.underlying45 rfl Y1.out ?_)
        generalize wr.alloc (Obj.cells #[.int .i64 ki, .int .i64 at0, .int .u8 by0, .slice A' ke.length c'] 45) = w4 at *
        generalize wr.heap.size = ab at *
        have m0 : w4.cell? ⟨ab, 0, none⟩ = some (.int .i64 ki) := cell_of_block HAB.out 0
        have m1 : w4.cell? ⟨ab, 1, none⟩ = some (.int .i64 at0) := cell_of_block HAB.out 1
        have m2 : w4.cell? ⟨ab, 2, none⟩ = some (.int .u8 by0) := cell_of_block HAB.out 2
        go_cut [10, 11] (fun v s wx => KSw W lb g N (j + 1) v s wx)
        case first =>
          by_cases h0 : ki = 0
          · subst h0
            go_wp2_with fail
            refine (payload_new at0 by0 w4).mono ?_
            rintro e w6 ⟨A6, rfl, hs6, hb6, hn6⟩
            have M6 := Lib.hid (M4.out.step hb6)
            have SM := Lib.hid (payL_small at0 by0)
            have N6 : Hid (∀ ad, A6 = some ad → ad.block = w4.heap.size) := Lib.hid hn6
            have S6 := Lib.hid hs6
            have S5 := Lib.hid M4.out.new
            have J60 : Hid (j < 60) := Lib.hid (by have := HL.out; omega)
            have AP := Lib.hid (append_any M6.out.ls.1 _ (payL_small at0 by0) (by have := payN_le at0; rw [payL_length]; omega) A6 _ hs6 (by have := P3.out.pd; have := J60.out; omega))
            clear hs6 hb6 hn6 m0 m1 m2
            go_wp2_with fail
            refine AP.out.mono ?_
            intro e w7 h7
            obtain ⟨rfl, F7, h71, h73, h74⟩ := M6.out.app h7 S6.out N6.out S5.out.2.1 S5.out.2.2.1 S5.out.2.2.2 S5.out.1
            have M7 := Lib.hid h71
            have S7 := Lib.hid h73
            have N7 := Lib.hid h74
            clear h7 h71 h73 h74 AP
            by_cases hk : (payL at0 by0).length ≤ 700 ∧ l3.placeOk N (l3.rcd (payL at0 by0)).many = true
            · rcases P3.out.app J60.out SM.out hk with ⟨a1, a2, a3, a4⟩ | ⟨a1, a2, a3⟩
              · rw [a1, a3]
                have P7 := Lib.hid a2
                have U7 := Lib.hid a4
                clear hk a1 a2 a3 a4
                have B8 : Hid (Below w7.heap.size w7 (w7.alloc (.cells #[.int .u64 l3.next, .int .u32 9, .slice A6 (payL at0 by0).length (payL at0 by0).length] 40))) := Lib.hid ((Below.refl _ _).alloc (Nat.le_refl _) _)
                have L8 := Lib.hid (M7.out.ls.below B8.out)
                have S8 := Lib.hid (S7.out.same fun ad had hne => heap_alloc_old w7 (.cells #[.int .u64 l3.next, .int .u32 9, .slice A6 (payL at0 by0).length (payL at0 by0).length] 40) (S7.out.lt had hne))
                have SS : Hid (Fg.Src (w7.alloc (.cells #[.int .u64 l3.next, .int .u32 9, .slice A6 (payL at0 by0).length (payL at0 by0).length] 40)) (some ⟨w7.heap.size, 0, none⟩) 1 1 [.int .u64 l3.next, .int .u32 9, .slice A6 (payL at0 by0).length (payL at0 by0).length]) := Lib.hid (src_rows w7 [.int .u64 l3.next, .int .u32 9, .slice A6 (payL at0 by0).length (payL at0 by0).length] _ 1 (by simp [maxLen]))
                obtain ⟨rl, hrl, hrow, hv8, hrs⟩ := M7.out.made.below B8.out
                obtain ⟨A8, c8, hu8, -⟩ := own_form hrow
                subst hu8
                have HRL := Lib.hid hrl
                have HROW := Lib.hid hrow
                have HV8 := Lib.hid hv8
                have HRS := Lib.hid hrs
                have H8 : Hid (W.heap.size ≤ (w7.alloc (.cells #[.int .u64 l3.next, .int .u32 9, .slice A6 (payL at0 by0).length (payL at0 by0).length] 40)).heap.size) := Lib.hid L8.out.2.1.size
                have HNB : Hid ((rl.length + 1) * 40 ≤ 140737488355328) := Lib.hid (by
                  have h1 := P3.out.most
                  have h2 : rl.length = rs.length := by rw [← hrl, List.length_map]
                  have h3 := J60.out
                  omega)
                clear hrl hrow hv8 hrs
                go_wp2_with (first
                  | refine wpList_slice_one rfl 30 40 (.tmp 70) rfl 3 (.agg #[.int .u64 0, .int .u32 0, .slice none 0 0]) (.agg #[.int .u64 l3.next, .int .u32 9, .slice A6 (payL at0 by0).length (payL at0 by0).length]) rfl Try.underlying30 recInfo2 (by decide) (by decide) rfl ?_
                  | (at_builtin; refine wpList_append_any rfl (.tmp 67) (.tmp 71) 30 rfl W.heap.size 40 (.agg #[.int .u64 0, .int .u32 0, .slice none 0 0]) 3 40 Try.underlying30 recInfo3 rfl (by decide) (by decide) (.slice A8 rl.length c8) rl.length _ rfl HROW.out (some ⟨w7.heap.size, 0, none⟩) 1 1 [.int .u64 l3.next, .int .u32 9, .slice A6 (payL at0 by0).length (payL at0 by0).length] rfl SS.out rfl (by simp [Value.oneCell']) HNB.out H8.out ?_))
                intro v' w9 ho9 hg9 _ hat9
                have R9 : Hid (KM W w9 lb g v' (l3.appL d3 (payL at0 by0)) (l3.appD d3 (payL at0 by0)) F7 (rs ++ [⟨l3.next, 9, payL at0 by0⟩])) := Lib.hid (by
                  have hbo : Below W.heap.size (w7.alloc (.cells #[.int .u64 l3.next, .int .u32 9, .slice A6 (payL at0 by0).length (payL at0 by0).length] 40)) w9 := (Below.refl _ _).grown hg9 H8.out (fun k hk => (HROW.out.lt k hk).1)
                  have hkp : ∀ k, k < (w7.alloc (.cells #[.int .u64 l3.next, .int .u32 9, .slice A6 (payL at0 by0).length (payL at0 by0).length] 40)).heap.size → (∀ b, (Value.slice A8 rl.length c8).ownBlock = some b → k ≠ b) → w9.heap[k]? = (w7.alloc (.cells #[.int .u64 l3.next, .int .u32 9, .slice A6 (payL at0 by0).length (payL at0 by0).length] 40)).heap[k]? := fun k hk hne => hg9.block k hk (fun e => hne _ e.symm rfl)
                  refine ⟨⟨⟨L8.out.1.disk.same fun k hk => hkp k (L8.out.1.disk.lt k hk) (fun b hb e => (HV8.out b hb).1 (e ▸ hk)), (hkp lb (block_lt L8.out.1.head) (fun b hb e => (HV8.out b hb).2 e.symm)).trans L8.out.1.head, L8.out.1.nf, L8.out.1.ok, L8.out.1.byt⟩, L8.out.2.1.trans hbo, L8.out.2.2⟩, ?_⟩
                  rw [← HRL.out]
                  exact MadeR.push HV8.out HRS.out S8.out N7.out L8.out.1.disk.lt (block_lt L8.out.1.head) ho9 hg9 (by simpa using hat9))
                clear ho9 hg9 hat9
                go_wp2_with fail
                go_meet
                exact ⟨k, _, _, F7, _, rfl, R9.out, .inl ⟨U7.out, P7.out⟩⟩
              · have b1 : (l3.appE d3 (payL at0 by0) == 0) = false := beq_eq_false_iff_ne.2 a1
                have Q7 := Lib.hid (And.intro a2 a3)
                generalize l3.appE d3 (payL at0 by0) = er at *
                clear hk a1 a2 a3
                go_wp2_with fail
                go_meet
                exact ⟨k, _, _, F7, rs, rfl, M7.out, .inr Q7.out⟩
            · obtain ⟨a1, a2, a3⟩ := P3.out.same hk
              have b1 : (l3.appE d3 (payL at0 by0) == 0) = false := beq_eq_false_iff_ne.2 a3
              have Q7 := Lib.hid (And.intro a1 a2)
              generalize l3.appE d3 (payL at0 by0) = er at *
              clear hk a1 a2 a3
              go_wp2_with fail
              go_meet
              exact ⟨k, _, _, F7, rs, rfl, M7.out, .inl (by rw [Q7.out.1, Q7.out.2]; exact ⟨P3.out.up, P3.out.more⟩)⟩
          · have k0 : (ki == 0) = false := beq_eq_false_iff_ne.2 h0
            by_cases h1 : ki = 1
            · subst h1
              clear h0 k0
              have SY := Lib.hid (lsync_any M4.out.ls.1)
              have J60 : Hid (j ≤ 60) := Lib.hid (by have := HL.out; omega)
              clear m0 m1 m2
              rcases P3.out.sync J60.out with ⟨a1, a2, a3⟩ | ⟨a1, a2, a3⟩
              · rw [a1] at SY
                have P7 := Lib.hid a2.more
                have U7 := Lib.hid a3
                clear a1 a2 a3
                go_wp2_with fail
                refine SY.out.mono ?_
                rintro e w7 ⟨rfl, ht⟩
                obtain ⟨F7, h7⟩ := M4.out.turn ht (by rw [P7.out.len, P3.out.len]) M4.out.ls.1.byt.sync
                have M7 := Lib.hid h7
                obtain ⟨rl, hrl, hrow, -⟩ := h7.made
                obtain ⟨A8, c8, hu8, hc1, hc2, -⟩ := own_form hrow
                subst hu8
                unfold maxLen at hc2
                have HRL : Hid (rl.length = rs.length) := Lib.hid (by rw [← hrl, List.length_map])
                clear hrl hrow ht h7 SY
                go_wp2_with fail
                go_meet
                exact ⟨rs.length, _, _, F7, _, by rw [HRL.out], M7.out, .inl ⟨U7.out, P7.out⟩⟩
              · have b1 : (d3.actE == 0) = false := beq_eq_false_iff_ne.2 a1
                have Q7 := Lib.hid (And.intro a2 a3)
                have HLE : Hid (d3.sync.st.length = d3.st.length) := Lib.hid (by rw [a3.len, P3.out.len])
                generalize d3.actE = er at *
                clear a1 a2 a3
                go_wp2_with fail
                refine SY.out.mono ?_
                rintro e w7 ⟨rfl, ht⟩
                obtain ⟨F7, h7⟩ := M4.out.turn ht HLE.out M4.out.ls.1.byt.sync
                have M7 := Lib.hid h7
                clear ht h7 SY
                go_wp2_with fail
                go_meet
                exact ⟨k, _, _, F7, _, rfl, M7.out, .inr Q7.out⟩
            · have k1 : (ki == 1) = false := beq_eq_false_iff_ne.2 h1
              by_cases h3 : ki = 3
              · subst h3
                clear h0 h1
                have BK := Lib.hid (brk_any M4.out.ls.1.disk at0 HAT.out.1.2)
                go_wp2_with fail
                refine BK.out.mono ?_
                rintro e w7 ⟨rfl, ht⟩
                obtain ⟨F7, h7⟩ := M4.out.turn ht rfl (M4.out.ls.1.byt.brk at0)
                have M7 := Lib.hid h7
                have P7 := Lib.hid (P3.out.brk at0).more
                clear ht h7 BK
                go_wp2_with fail
                go_meet
                exact ⟨k, _, _, F7, _, rfl, M7.out, .inl ⟨P7.out.up, P7.out⟩⟩
              · have k3 : (ki == 3) = false := beq_eq_false_iff_ne.2 h3
                go_wp2_with fail
                go_meet
                exact ⟨k, l3, d3, F3, rs, rfl, M4.out, .inl ⟨P3.out.up, P3.out.more⟩⟩
        case rest =>
          obtain ⟨k', l5, d5, F5, rs5, rfl, hm5, hp5⟩ := hcut
          have M5 := Lib.hid hm5
          have DN := Lib.hid (down_any hm5.ls.1.disk)
          clear hm5
          rcases hp5 with ⟨hdn, hp5⟩ | ⟨hdn, hp5⟩
          · have P5 := Lib.hid hp5
            rw [hdn] at DN
            clear hp5 hdn
            go_wp2_with fail
            refine DN.out.mono ?_
            rintro e w6 ⟨rfl, rfl⟩
            go_wp2_with fail
            go_roundg (gk - 1)
            case measure => omega
            case rel => exact ⟨j + 1, by omega, by go_num, k', l5, d5, F5, rs5, rfl, M5.out, P5.out⟩
          · have P5 := Lib.hid hp5
            rw [hdn] at DN
            clear hp5 hdn
            go_wp2_with fail
            refine DN.out.mono ?_
            rintro e w6 ⟨rfl, rfl⟩
            go_wp2_with fail
            go_meet
            exact ⟨k', l5, d5, F5, rs5, rfl, M5.out, P5.out⟩
      · clear ENV
        go_wp2_with fail
        go_meet
        exact ⟨k, l3, d3, F3, rs, rfl, M3.out, P3.out.toS (by have := HL.out; omega)⟩
  case rest =>
    obtain ⟨k, l3, d3, F3, rs, rfl, hkm, hks⟩ := hcut
    have M3 := Lib.hid hkm
    have P3 := Lib.hid hks
    have CR := Lib.hid (crash_any0 hkm.ls.1.disk keep Ak ck (HSK.out.same fun ad had hne => hkm.ls.2.1.block _ (HSK.out.lt had hne)) (fun ad had hne hf => by
      have h1 := hkm.ls.2.2.1 _ hf
      have h2 := HSK.out.lt had (by intro e; exact hne (by simpa [blv] using e))
      omega))
    clear hkm hks R2 ENV
    go_wp2_with fail
    refine CR.out.mono ?_
    rintro e w4 ⟨rfl, ht⟩
    obtain ⟨F4, h4⟩ := M3.out.turn ht (Dk.length_settle _ _ _ _) (M3.out.ls.1.byt.crash keep)
    have M4 := Lib.hid h4
    obtain ⟨more, L, hsc⟩ := P3.out.crash keep
    have HSC := Lib.hid hsc
    have HLE : Hid ((d3.crash keep).st.length = N) := Lib.hid ((Dk.length_settle _ _ _ _).trans P3.out.len)
    have HST : Hid (startE (d3.crash keep).st.length 100 0 = 0) := Lib.hid (by rw [HLE.out, startE, if_pos HOK.out, if_neg (by decide)])
    have SCN := Lib.hid (scan_any h4.ls.1.disk h4.ls.1.byt 9 100 0 (by decide) (by decide))
    have SML : Hid (∀ x ∈ rs.take k ++ more, Crc.Small x.pay) := Lib.hid (by
      intro x hx
      refine scanF_small 496 l9 (d3.crash keep) (by rw [HLE.out]; exact P3.out.start) h4.ls.1.disk.ok h4.ls.1.byt x ?_
      have : (scanF 496 l9 (d3.crash keep)).1 = rs.take k ++ more := by rw [show scanF 496 l9 (d3.crash keep) = _ from hsc]
      rw [this]; exact hx)
    clear ht h4 hsc CR
    go_wp2_with fail
    refine SCN.out.mono ?_
    rintro e w7 ⟨v, rfl, hr7, hb7⟩
    rw [if_pos HST.out, HSC.out] at hr7
    rw [if_pos HST.out, HSC.out, HST.out]
    have M7 := Lib.hid (M4.out.step hb7)
    obtain ⟨A8, c8, la, rfl, hla, ra, ca, cma⟩ := hr7.at_ SML.out
    obtain ⟨A9, c9, lm, rfl, hlm, rb, cb, cmb⟩ := M7.out.made.recs.at_ P3.out.small
    have RA := Lib.hid ra
    have RB := Lib.hid rb
    have HLA := Lib.hid hla
    have HLM := Lib.hid hlm
    have hk1 : (k : Int) ≤ la.length := by
      have h1 := congrArg List.length hla
      rw [List.length_map, List.length_append, List.length_take] at h1
      have := P3.out.few
      omega
    have hk2 : (k : Int) ≤ lm.length := by
      have h1 := congrArg List.length hlm
      rw [List.length_map] at h1
      have := P3.out.few
      omega
    have HK2 := Lib.hid hk2
    have hk3 : decide ((la.length : Int) < k) = false := decide_eq_false (by omega)
    unfold maxLen at cma cmb
    generalize L.seg = sg at *
    clear hr7 hb7 SCN ra rb hla hlm
    go_wp2_with fail
    clear hk3
    obtain ⟨n, hn⟩ : ∃ n, la.length = n := ⟨_, rfl⟩
    obtain ⟨m, hmm⟩ : ∃ m, lm.length = m := ⟨_, rfl⟩
    rw [hn] at ca ⊢
    rw [hmm] at cb hk2 HK2 ⊢
    have HNA := Lib.hid hn
    have HNM := Lib.hid hmm
    clear hn hmm hk1
    go_loopg [108] n (fun k i wr => ∃ j : Nat, j + k = n ∧ i = .int .i64 j ∧ Below w7.heap.size w7 wr)
    case atStart => exact ⟨0, Nat.zero_add _, rfl, Below.refl _ _⟩
    case round =>
      obtain ⟨j, hj, rfl, hbw⟩ := hrel
      have BW := Lib.hid hbw
      have B7 : Hid (Below W.heap.size W wr) := Lib.hid (M7.out.ls.2.1.trans (hbw.mono M7.out.ls.2.1.size))
      clear hbw
      by_cases hlt : j < n
      · have hjn : (j : Int) < n := by omega
        by_cases hjm : m ≤ j
        · have b1 : decide ((m : Int) ≤ (j : Int)) = true := decide_eq_true (by omega)
          have b2 : decide ((k : Int) ≤ (j : Int)) = true := decide_eq_true (by omega)
          have b1n : decide (m ≤ j) = true := decide_eq_true (by omega)
          have b2n : decide (k ≤ j) = true := decide_eq_true (by have := HK2.out; omega)
          go_upto_region 34 with fail
          go_quiet (fail)
          go_wp2_with fail
          go_ret
          exact ⟨rfl, below_drewN B7.out _⟩
        · have b1 : decide ((m : Int) ≤ (j : Int)) = false := decide_eq_false (by omega)
          have b1n : decide (m ≤ j) = false := decide_eq_false (by omega)
          obtain ⟨⟨⟨XA, xc⟩, x⟩, hx⟩ : ∃ x, la[j]? = some x := ⟨_, List.getElem?_eq_getElem (by rw [HNA.out]; exact hlt)⟩
          obtain ⟨⟨⟨YA, yc⟩, y⟩, hy⟩ : ∃ x, lm[j]? = some x := ⟨_, List.getElem?_eq_getElem (by rw [HNM.out]; omega)⟩
          have RA' := RA.out.below BW.out
          have RB' := RB.out.below BW.out
          obtain ⟨p, rfl, hp, hrg⟩ := RA'.rows j (recC ((XA, xc), x)) (by rw [List.getElem?_map, hx]; rfl)
          obtain ⟨q, rfl, hq, hrq⟩ := RB'.rows j (recC ((YA, yc), y)) (by rw [List.getElem?_map, hy]; rfl)
          obtain ⟨sx, mx⟩ := RA'.pays _ (List.mem_of_getElem? hx)
          obtain ⟨sy, my⟩ := RB'.pays _ (List.mem_of_getElem? hy)
          have a0 : wr.cell? ⟨p, j * 3, none⟩ = some (.int .u64 x.seq) := hrg 0 _ rfl
          have a1 : wr.cell? ⟨p, j * 3 + 1, none⟩ = some (.int .u32 x.epoch) := hrg 1 _ rfl
          have a2 : wr.cell? ⟨p, j * 3 + 2, none⟩ = some (.slice XA x.pay.length xc) := hrg 2 _ rfl
          have b0 : wr.cell? ⟨q, j * 3, none⟩ = some (.int .u64 y.seq) := hrq 0 _ rfl
          have b1' : wr.cell? ⟨q, j * 3 + 1, none⟩ = some (.int .u32 y.epoch) := hrq 1 _ rfl
          have b2 : wr.cell? ⟨q, j * 3 + 2, none⟩ = some (.slice YA y.pay.length yc) := hrq 2 _ rfl
          have SA := Lib.hid (same_any x y XA YA xc yc wr.drew mx my (sx.same fun ad had hne => (Fg.below_dr (Below.refl _ _)).block _ (sx.lt had hne)) (sy.same fun ad had hne => (Fg.below_dr (Below.refl _ _)).block _ (sy.lt had hne)))
          unfold recv at SA
          have HP := Lib.hid hp
          have HQ := Lib.hid hq
          have HLT : Hid (j < k → x = y) := Lib.hid (fun hjk => by
            have h1 : (rs.take k ++ more)[j]? = some x := by rw [← HLA.out, List.getElem?_map, hx]; rfl
            have h2 : rs[j]? = some y := by rw [← HLM.out, List.getElem?_map, hy]; rfl
            have h3 : j < rs.length := (List.getElem?_eq_some_iff.1 h2).1
            rw [List.getElem?_append_left (by rw [List.length_take]; omega), List.getElem?_take_of_lt hjk, h2] at h1
            injection h1 with h1
            exact h1.symm)
          have hjc : (j : Int) < m := by omega
          clear hrg hrq sx sy mx my RA' RB' hx hy hp hq hjm
          by_cases hxy : x = y
          · rw [decide_eq_true hxy] at SA
            clear hxy HLT
            go_upto_region 34 with fail
            go_region_held3 (fun w' => w'.cell? ⟨p, j * 3, none⟩ = some (.int .u64 x.seq) ∧ w'.cell? ⟨p, j * 3 + 1, none⟩ = some (.int .u32 x.epoch) ∧ w'.cell? ⟨p, j * 3 + 2, none⟩ = some (.slice XA x.pay.length xc) ∧ w'.cell? ⟨q, j * 3, none⟩ = some (.int .u64 y.seq) ∧ w'.cell? ⟨q, j * 3 + 1, none⟩ = some (.int .u32 y.epoch) ∧ w'.cell? ⟨q, j * 3 + 2, none⟩ = some (.slice YA y.pay.length yc))
              (first | exact ⟨a0, a1, a2, b0, b1', b2⟩ | exact QS.out)
              ((go_at_call 18; refine SA.out.mono ?_; rintro e w9 ⟨rfl, hb9⟩; have B9 := Lib.hid hb9; clear hb9
                have QS := Lib.hid (And.intro ((B9.out.cell (p := ⟨p, j * 3, none⟩) HP.out).trans a0) (And.intro ((B9.out.cell (p := ⟨p, j * 3 + 1, none⟩) HP.out).trans a1) (And.intro ((B9.out.cell (p := ⟨p, j * 3 + 2, none⟩) HP.out).trans a2) (And.intro ((B9.out.cell (p := ⟨q, j * 3, none⟩) HQ.out).trans b0) (And.intro ((B9.out.cell (p := ⟨q, j * 3 + 1, none⟩) HQ.out).trans b1') ((B9.out.cell (p := ⟨q, j * 3 + 2, none⟩) HQ.out).trans b2))))))))
            go_wp2_with fail
            go_roundg (gk - 1)
            case measure => omega
            case rel => exact ⟨j + 1, by omega, by go_num, (Fg.below_dr BW.out).trans (B9.out.mono (Fg.below_dr BW.out).size)⟩
          · have hkj : decide ((k : Int) ≤ (j : Int)) = true := decide_eq_true (by
              have h1 := HLT.out
              apply Classical.byContradiction
              intro hge
              exact hxy (h1 (by omega)))
            have hkjn : decide (k ≤ j) = true := decide_eq_true (by have := of_decide_eq_true hkj; omega)
            rw [decide_eq_false hxy] at SA
            clear hxy HLT
            go_upto_region 34 with fail
            go_region_held3 (fun w' => w'.cell? ⟨p, j * 3, none⟩ = some (.int .u64 x.seq) ∧ w'.cell? ⟨p, j * 3 + 1, none⟩ = some (.int .u32 x.epoch) ∧ w'.cell? ⟨p, j * 3 + 2, none⟩ = some (.slice XA x.pay.length xc) ∧ w'.cell? ⟨q, j * 3, none⟩ = some (.int .u64 y.seq) ∧ w'.cell? ⟨q, j * 3 + 1, none⟩ = some (.int .u32 y.epoch) ∧ w'.cell? ⟨q, j * 3 + 2, none⟩ = some (.slice YA y.pay.length yc))
              (first | exact ⟨a0, a1, a2, b0, b1', b2⟩ | exact QS.out)
              ((go_at_call 18; refine SA.out.mono ?_; rintro e w9 ⟨rfl, hb9⟩; have B9 := Lib.hid hb9; clear hb9
                have QS := Lib.hid (And.intro ((B9.out.cell (p := ⟨p, j * 3, none⟩) HP.out).trans a0) (And.intro ((B9.out.cell (p := ⟨p, j * 3 + 1, none⟩) HP.out).trans a1) (And.intro ((B9.out.cell (p := ⟨p, j * 3 + 2, none⟩) HP.out).trans a2) (And.intro ((B9.out.cell (p := ⟨q, j * 3, none⟩) HQ.out).trans b0) (And.intro ((B9.out.cell (p := ⟨q, j * 3 + 1, none⟩) HQ.out).trans b1') ((B9.out.cell (p := ⟨q, j * 3 + 2, none⟩) HQ.out).trans b2))))))))
            go_wp2_with fail
            go_ret
            exact ⟨rfl, (Fg.below_dr B7.out).trans (B9.out.mono (Fg.below_dr B7.out).size)⟩
      · go_wp2_with fail
        go_ret
        exact ⟨rfl, B7.out⟩
end Go.Proofs.Ytogkibikghbghaa.Wal
