/- The walk of WalRoom: a log is filled, and scanned. Conditions: none beyond each lemma's own hypotheses. -/
import Derived.Test.YtogkibikghbghaaFgWalMade
import Derived.Test.YtogkibikghbghaaFgWalEpoch1
set_option linter.unusedVariables false
set_option linter.unusedSimpArgs false
namespace Go.Proofs.Ytogkibikghbghaa.Wal
open Go.RowKit Go.Proofs.Ytogkibikghbghaa.Fg Go.Proofs.Ytogkibikghbghaa.Frame Go.Proofs.Ytogkibikghbghaa.Disk Go.Proofs.Ytogkibikghbghaa.Area Go.ChangeShapes Go.WideShapes Go.ChangeAt

/-- A log that is filled, and what was put into it. -/
structure RmP (N j : Nat) (l : Lg) (d : Dk) (rs : List Rec) : Prop where
  laid : Laid d (Lg.new 1 1 1) rs l
  free : Free d l
  live : Live d
  start : (Lg.new 1 1 1).ok d.st.length
  len : d.st.length = N
  pd : d.pd.length ≤ j * 12
  next : l.next = 1 + rs.length
  few : rs.length ≤ j
  small : ∀ r ∈ rs, Crc.Small r.pay
  epoch : l.epoch = 1
structure Rm (W w : World) (lb g N j : Nat) (v : Value) (l : Lg) (d : Dk) (F : Nat → Prop) (rs : List Rec) : Prop where
  ls : LS W w lb g l d F
  made : MadeR W w lb F v rs
  p : RmP N j l d rs
theorem app_pd (l : Lg) (d : Dk) (p : List Int) : (l.appD d p).pd.length ≤ d.pd.length + 12 := by
  unfold Lg.appD
  split
  · omega
  · rename_i hp7
    split
    · have h1 := putAll_pd (l.rcd p).made d (l.at_ d.st.length (l.rcd p).many)
      obtain ⟨m1, m2, m3⟩ := rcd_many (l := l) (p := p) (by omega)
      omega
    · omega
theorem rcd_secs {l : Lg} {p : List Int} {z : Int} (h : (p.length : Int) = z) : ((l.rcd p).many : Int) = secs z := by
  have := secs_range ((l.rcd p).pay.length : Int)
  unfold Rec.many
  rw [show ((l.rcd p).pay.length : Int) = z from h] at *
  omega
theorem payL_len {z c : Int} (h0 : 0 ≤ z) (h1 : z ≤ 700) : ((payL z c).length : Int) = z := by
  rw [payL_length]; unfold payN; split <;> (try split) <;> omega
theorem secs_pos {z : Int} (h0 : 0 ≤ z) (h1 : z ≤ 700) : secs z = (z + 81) / 64 ∧ 0 < secs z ∧ secs z ≤ 12 := by
  have : secs z = (z + 81) / 64 := if_pos ⟨h0, h1⟩
  omega
theorem RmP.more {N j : Nat} {l : Lg} {d : Dk} {rs : List Rec} (h : RmP N j l d rs) : RmP N (j + 1) l d rs :=
  ⟨h.laid, h.free, h.live, h.start, h.len, by have := h.pd; omega, h.next, by have := h.few; omega, h.small, h.epoch⟩
theorem RmP.app {N j : Nat} {l : Lg} {d : Dk} {rs : List Rec} (h : RmP N j l d rs) (hj : j < 1000) {p : List Int} {z : Int} (hs : Crc.Small p) (hp : (p.length : Int) = z) (hz : z ≤ 700) (hk : l.placeOk N (secs z) = true) :
    RmP N (j + 1) (l.appL d p) (l.appD d p) (rs ++ [⟨l.next, 1, p⟩]) ∧ l.appE d p = 0 ∧ l.appN d p = l.next := by
  have hn : l.next ≠ 0 := by have := h.next; omega
  have hr : l.rcd p = ⟨l.next, 1, p⟩ := by unfold Lg.rcd; rw [if_neg hn, h.epoch]
  obtain ⟨a1, a2, a3, a4, a5⟩ := app_laid h.start h.laid h.free h.live hs (by omega) hn (by rw [rcd_secs hp, h.len]; exact hk)
  have hpd := app_pd l d p
  have hst := appD_st l d p
  rw [hr] at a4
  refine ⟨⟨a4, a5, a2, by rw [hst]; exact h.start, by rw [hst]; exact h.len, by have := h.pd; omega, ?_, ?_, ?_, ?_⟩, a1, by rw [Lg.appN, if_pos a1]⟩
  · rw [a3]
    show (l.next + 1) % _ = _
    have := h.next
    have := h.few
    simp only [List.length_append, List.length_cons, List.length_nil]
    omega
  · have := h.few; simp; omega
  · intro r hm
    rcases List.mem_append.1 hm with hm | hm
    · exact h.small r hm
    · rw [List.mem_singleton.1 hm]; exact hs
  · rw [a3]; exact h.epoch
theorem RmP.full {N j : Nat} {l : Lg} {d : Dk} {rs : List Rec} (h : RmP N j l d rs) {p : List Int} {z : Int} (hp : (p.length : Int) = z) (hz : z ≤ 700) (hk : l.placeOk N (secs z) = false) :
    l.appL d p = l ∧ l.appD d p = d ∧ l.appE d p = 101 ∧ l.appN d p = 0 := by
  have hk2 : ¬ l.placeOk d.st.length (l.rcd p).many = true := by rw [rcd_secs hp, h.len, hk]; decide
  obtain ⟨e1, e2, e3⟩ := app_same (l := l) (d := d) (p := p) (fun hh => hk2 hh.2)
  refine ⟨e1, e2, ?_, by rw [Lg.appN, if_neg e3]⟩
  unfold Lg.appE
  rw [if_neg (by omega), if_neg hk2]
theorem Rm.more {W w : World} {lb g N j : Nat} {v : Value} {l : Lg} {d : Dk} {F : Nat → Prop} {rs : List Rec} (h : Rm W w lb g N j v l d F rs) : Rm W w lb g N (j + 1) v l d F rs := ⟨h.ls, h.made, h.p.more⟩
theorem Rm.step {W w w' : World} {lb g N j : Nat} {v : Value} {l : Lg} {d : Dk} {F : Nat → Prop} {rs : List Rec} (h : Rm W w lb g N j v l d F rs) (hb : Below w.heap.size w w') : Rm W w' lb g N j v l d F rs :=
  ⟨h.ls.below hb, h.made.below hb, h.p⟩
/-- An append beside what was made. -/
theorem Rm.app {W w w' : World} {lb g N j : Nat} {v : Value} {l : Lg} {d : Dk} {F : Nat → Prop} {rs : List Rec} (h : Rm W w lb g N j v l d F rs) {p : List Int} {e : Ending} (a : AppE w lb g l d F p e w') {A : Option Addr} {c : Nat} {B : Nat}
    (hs : Fg.Src w A p.length c (bv p)) (hB : ∀ ad, A = some ad → ad.block = B) (hBF : ¬ F B) (hBl : B ≠ lb) (hBv : v.ownBlock ≠ some B) (hBW : W.heap.size ≤ B) :
    e = .returned (.tuple #[.int .u64 (l.appN d p), .int .i64 (l.appE d p)]) ∧ ∃ F', LS W w' lb g (l.appL d p) (l.appD d p) F' ∧ MadeR W w' lb F' v rs ∧ Fg.Src w' A p.length c (bv p) ∧
      ∀ ad, A = some ad → bv p ≠ [] → W.heap.size ≤ ad.block ∧ v.ownBlock ≠ some ad.block ∧ ¬ F' ad.block ∧ ad.block ≠ lb := by
  obtain ⟨he, -⟩ := h.ls.app a
  obtain ⟨F', -, h2, h3, h4⟩ := a
  have h5 : LS W w' lb g (l.appL d p) (l.appD d p) F' := ⟨h2, h.ls.2.1.trans (h3.below h.ls.2.1.size (fun i hi => hi.elim (h.ls.2.2.1 i) (fun e => e ▸ h.ls.2.2.2))), fun k hk => (h4 k hk).elim (h.ls.2.2.1 k) (Nat.le_trans h.ls.2.1.size), h.ls.2.2.2⟩
  refine ⟨he, F', h5, h.made.turn h3 h4, hs.same fun ad had hne => h3.block _ (hs.lt had hne) (fun hh => ?_), fun ad had hne => ?_⟩
  · rw [hB ad had] at hh
    exact hh.elim hBF hBl
  · have hlt := hs.lt had hne
    rw [hB ad had] at hlt ⊢
    exact ⟨hBW, hBv, fun hf => (h4 _ hf).elim hBF (fun hge => absurd hlt (Nat.not_lt.2 hge)), hBl⟩
theorem MadeR.fresh {W w : World} {lb : Nat} {F : Nat → Prop} (hF : ∀ k, F k → k < w.heap.size) (hlb : lb < w.heap.size) (hW : W.heap.size ≤ w.heap.size) :
    MadeR W (w.alloc (.cells #[] 40)) lb F (.slice (some ⟨w.heap.size, 0, none⟩) 0 0) [] :=
  ⟨[], rfl, World.ownsRow_made w #[] 0 hW (Nat.zero_le _) rfl, (fun b hb => by
    have hb : w.heap.size = b := by simpa [Value.ownBlock] using hb
    exact ⟨fun hf => absurd (hF b hf) (by omega), by omega⟩), fun _ h => by cases h⟩
def RmRel (W : World) (lb g N j : Nat) (v : Value) (w : World) : Prop := ∃ l d F rs, Rm W w lb g N j v l d F rs
set_option maxRecDepth 100000 in
set_option maxHeartbeats 4000000 in
theorem room_law (n : Int) (hn : (Lit.int .i64 n).wf = true) (A : Option Addr) (c : Nat) (l : List Int) (W : World) (hs : Fg.Src W A l.length c (iv l)) :
    Calls Try.prog 6 #[.int .i64 n, .slice A l.length c] W fun e w' => e = .returned (.bool true) ∧ Below W.heap.size W w' := by
  have hw : -9223372036854775808 ≤ n ∧ n ≤ 9223372036854775807 := by simpa [Lit.wf, IntKind.min, IntKind.max, IntKind.signed, IntKind.bits] using hn
  have HS := Lib.hid hs
  have hm := hs.most
  have hm2 := hs.cap
  unfold maxLen at hm
  clear hs hn
  go_enter Try.func6, Try.ntmps6
  go_wp2_with fail
  refine (alive_any W).mono ?_
  rintro e w0 ⟨rfl, hb0⟩
  have HB0 := Lib.hid hb0
  clear hb0
  by_cases h0 : n < 64
  · go_wp2_with fail
    go_ret
    exact ⟨rfl, HB0.out⟩
  by_cases h1 : 140 < n
  · go_wp2_with fail
    go_ret
    exact ⟨rfl, HB0.out⟩
  by_cases h2 : (80 : Int) < l.length
  · go_wp2_with fail
    go_ret
    exact ⟨rfl, HB0.out⟩
  obtain ⟨N, rfl⟩ : ∃ N : Nat, n = N := ⟨n.toNat, by omega⟩
  have HN : Hid (64 ≤ N ∧ N ≤ 140) := Lib.hid (by omega)
  have HL : Hid (l.length ≤ 80) := Lib.hid (by omega)
  have c0 : decide ((N : Int) < 64) = false := decide_eq_false h0
  have c1 : decide ((140 : Int) < N) = false := decide_eq_false h1
  have c2 : decide ((80 : Int) < l.length) = false := decide_eq_false h2
  go_wp2_with fail
  clear c0 c1 c2
  refine (new_any N N _ (by rw [if_neg (by omega), if_neg (by omega)])).mono ?_
  rintro e w1 ⟨g, F, rfl, hd, hb, hF⟩
  have HF := Lib.hid hF
  have B1 : Hid (Below W.heap.size W w1) := Lib.hid (HB0.out.trans (hb.mono HB0.out.size))
  have S1 := Lib.hid HB0.out.size
  have ST := Lib.hid (start_any hd (Byt.new N) 1 1 1 (by decide) (by decide))
  have HNL : Hid ((Dk.new N).st.length = N) := Lib.hid (by simp [Dk.new])
  have HSE : Hid (startE (Dk.new N).st.length 1 1 = 0) := Lib.hid (by
    rw [HNL.out]
    have : okB (N : Int) 1 = true := by
      unfold okB segsN
      have := HN.out
      rw [if_pos (by omega)]
      simp only [Bool.and_eq_true, decide_eq_true_eq]
      omega
    rw [startE, if_pos this, if_neg (by decide)])
  clear hd hb hF
  go_wp2_with fail
  refine ST.out.mono ?_
  rintro e w2 ⟨A2, rfl, hb2, -, heq⟩
  obtain ⟨lb, rfl, hlb, hL⟩ := heq HSE.out
  have hLS : LS W w2 lb g (Lg.new 1 1 1) (Dk.new N) F := ⟨hL, B1.out.trans (hb2.mono B1.out.size), fun k hk => Nat.le_trans S1.out (HF.out k hk), Nat.le_trans B1.out.size hlb⟩
  have R2 : Hid (Rm W (w2.alloc (.cells #[] 40)) lb g N 0 (.slice (some ⟨w2.heap.size, 0, none⟩) 0 0) (Lg.new 1 1 1) (Dk.new N) F []) := Lib.hid
    ⟨hLS.below ((Below.refl _ _).alloc (Nat.le_refl _) _), MadeR.fresh hL.disk.lt (block_lt hL.head) hLS.2.1.size, ⟨.nil _, Free.new _, ⟨rfl, rfl⟩, hL.ok, HNL.out, Nat.le_refl _, rfl, Nat.le_refl _, (fun r hr => by cases hr), rfl⟩⟩
  rw [HSE.out]
  clear hb2 heq hlb hL ST hLS
  go_wp2_with fail
  go_loopg [44, 8] l.length (fun k i v wr => ∃ j : Nat, j + k = l.length ∧ i = .int .i64 j ∧ RmRel W lb g N j v wr)
  case atStart => exact ⟨0, Nat.zero_add _, rfl, _, _, _, _, R2.out⟩
  case round =>
    obtain ⟨j, hj, rfl, l3, d3, F3, rs, hr3⟩ := hrel
    have R3 := Lib.hid hr3
    clear hr3 R2
    by_cases hlt : j < l.length
    · obtain ⟨ad, rfl, hc⟩ := src_one HS.out R3.out.ls.2.1 hlt
      have hj80 : j < 80 := by omega
      obtain ⟨z, hz⟩ : ∃ z, l[j]'hlt = z := ⟨_, rfl⟩
      rw [hz] at hc
      have MO : Hid (Rm W wr lb g N (j + 1) u8 l3 d3 F3 rs) := Lib.hid R3.out.more
      clear hz
      by_cases z0 : z < 0
      · go_wp2_with fail
        go_roundg (gk - 1)
        case measure => omega
        case rel => exact ⟨j + 1, by omega, by go_num, _, _, _, _, MO.out⟩
      by_cases z7 : 700 < z
      · go_wp2_with fail
        go_roundg (gk - 1)
        case measure => omega
        case rel => exact ⟨j + 1, by omega, by go_num, _, _, _, _, MO.out⟩
      have Z0 := Lib.hid z0
      have Z7 := Lib.hid z7
      obtain ⟨s1, s2, s3⟩ := secs_pos (z := z) (by omega) (by omega)
      have ZS := Lib.hid s1
      have ho3 := R3.out.ls.1.ok
      have hn3 : l3.next ≠ 0 := by have := R3.out.p.next; omega
      have HNX := Lib.hid hn3
      have LFR := Lib.hid (left_range ho3)
      obtain ⟨rl1, rl2⟩ := room_left ho3 hn3 (many := secs z) ⟨s2, s3⟩
      have LA := Lib.hid (left_any R3.out.ls.1)
      rw [R3.out.p.len] at rl1 rl2 LA LFR
      obtain ⟨lf, hlf⟩ : ∃ x, l3.left N = x := ⟨_, rfl⟩
      rw [hlf] at rl1 rl2 LA LFR
      have b0 : decide (z < 0) = false := decide_eq_false z0
      have b7 : decide (700 < z) = false := decide_eq_false z7
      clear hlf s1 s2 s3 ho3 hn3
      by_cases hk : l3.placeOk N (secs z) = true
      · have HK := Lib.hid hk
        have RL2 := Lib.hid (rl2 hk)
        clear rl1 rl2
        go_wp2_with fail
        refine LA.out.mono ?_
        rintro e w4 ⟨rfl, hb4⟩
        have R4 := Lib.hid (R3.out.step hb4)
        have RO := Lib.hid (room_any R4.out.ls.1 z (by have := Z0.out; have := Z7.out; omega))
        rw [R4.out.p.len, HK.out] at RO
        clear hb4 LA
        go_wp2_with fail
        refine RO.out.mono ?_
        rintro e w5 ⟨rfl, hb5⟩
        have R5 := Lib.hid (R4.out.step hb5)
        clear hb5 RO R4
        go_wp2_with fail
        refine (payload_new z _ w5).mono ?_
        rintro e w6 ⟨A6, rfl, hs6, hb6, hn6⟩
        have R6 := Lib.hid (R5.out.step hb6)
        have SM := Lib.hid (payL_small z (j : Int))
        have PL : Hid (((payL z (j : Int)).length : Int) = z) := Lib.hid (payL_len (by have := Z0.out; omega) (by have := Z7.out; omega))
        have N6 : Hid (∀ ad, A6 = some ad → ad.block = w5.heap.size) := Lib.hid hn6
        have S6 := Lib.hid hs6
        have AP := Lib.hid (append_any R6.out.ls.1 _ (payL_small z (j : Int)) (by have := payN_le z; rw [payL_length]; omega) A6 _ hs6 (by have := R6.out.p.pd; omega))
        obtain ⟨rp, ae, an⟩ := R6.out.p.app (by omega) SM.out PL.out (by have := Z7.out; omega) HK.out
        have RP := Lib.hid rp
        have AE := Lib.hid ae
        have AN := Lib.hid an
        have S5 : Hid (W.heap.size ≤ w5.heap.size ∧ ¬ F3 w5.heap.size ∧ w5.heap.size ≠ lb ∧ u8.ownBlock ≠ some w5.heap.size) := Lib.hid (by
          refine ⟨R5.out.ls.2.1.size, fun hf => absurd (R5.out.ls.1.disk.lt _ hf) (Nat.lt_irrefl _), fun e => ?_, fun e => ?_⟩
          · have := block_lt R5.out.ls.1.head; omega
          · obtain ⟨_, _, hrow, _⟩ := R5.out.made
            have := (hrow.lt _ e).2; omega)
        clear hs6 hb6 hn6 rp ae an
        go_wp2_with fail
        refine AP.out.mono ?_
        intro e w7 h7
        obtain ⟨rfl, F7, h71, h72, h73, h74⟩ := R6.out.app h7 S6.out N6.out S5.out.2.1 S5.out.2.2.1 S5.out.2.2.2 S5.out.1
        rw [AE.out, AN.out]
        have L7 := Lib.hid h71
        have M7 := Lib.hid h72
        have S7 := Lib.hid h73
        have N7 := Lib.hid h74
        have RLF : Hid ((z + 81) / 64 ≤ lf) := Lib.hid (by have := RL2.out; rw [ZS.out] at this; exact this)
        clear h7 h71 h72 h73 h74 AP hc hk
        have B8 : Hid (Below w7.heap.size w7 (w7.alloc (.cells #[.int .u64 l3.next, .int .u32 1, .slice A6 (payL z (j : Int)).length (payL z (j : Int)).length] 40))) := Lib.hid ((Below.refl _ _).alloc (Nat.le_refl _) _)
        have L8 := Lib.hid (L7.out.below B8.out)
        have S8 := Lib.hid (S7.out.same fun ad had hne => heap_alloc_old w7 (.cells #[.int .u64 l3.next, .int .u32 1, .slice A6 (payL z (j : Int)).length (payL z (j : Int)).length] 40) (S7.out.lt had hne))
        have SS : Hid (Fg.Src (w7.alloc (.cells #[.int .u64 l3.next, .int .u32 1, .slice A6 (payL z (j : Int)).length (payL z (j : Int)).length] 40)) (some ⟨w7.heap.size, 0, none⟩) 1 1 [.int .u64 l3.next, .int .u32 1, .slice A6 (payL z (j : Int)).length (payL z (j : Int)).length]) := Lib.hid (src_rows w7 [.int .u64 l3.next, .int .u32 1, .slice A6 (payL z (j : Int)).length (payL z (j : Int)).length] _ 1 (by simp [maxLen]))
        obtain ⟨rl, hrl, hrow, hv8, hrs⟩ := M7.out.below B8.out
        obtain ⟨A8, c8, hu8, -⟩ := own_form hrow
        subst hu8
        have HRL := Lib.hid hrl
        have HROW := Lib.hid hrow
        have HV8 := Lib.hid hv8
        have HRS := Lib.hid hrs
        have H8 : Hid (W.heap.size ≤ (w7.alloc (.cells #[.int .u64 l3.next, .int .u32 1, .slice A6 (payL z (j : Int)).length (payL z (j : Int)).length] 40)).heap.size) := Lib.hid L8.out.2.1.size
        have HNB : Hid ((rl.length + 1) * 40 ≤ 140737488355328) := Lib.hid (by
          have h1 := RP.out.few
          have h2 : rl.length = rs.length := by rw [← hrl, List.length_map]
          simp only [List.length_append, List.length_cons, List.length_nil] at h1
          omega)
        clear hrl hrow hv8 hrs
        by_cases h27 : 27 ≤ lf
        · have b27 : decide (27 ≤ lf) = true := decide_eq_true h27
          go_wp2_with (first
            | refine wpList_slice_one rfl 30 40 (.tmp 105) rfl 3 (.agg #[.int .u64 0, .int .u32 0, .slice none 0 0]) (.agg #[.int .u64 l3.next, .int .u32 1, .slice A6 (payL z (j : Int)).length (payL z (j : Int)).length]) rfl Try.underlying30 recInfo2 (by decide) (by decide) rfl ?_
            | (at_builtin; refine wpList_append_any rfl (.tmp 102) (.tmp 106) 30 rfl W.heap.size 40 (.agg #[.int .u64 0, .int .u32 0, .slice none 0 0]) 3 40 Try.underlying30 recInfo3 rfl (by decide) (by decide) (.slice A8 rl.length c8) rl.length _ rfl HROW.out (some ⟨w7.heap.size, 0, none⟩) 1 1 [.int .u64 l3.next, .int .u32 1, .slice A6 (payL z (j : Int)).length (payL z (j : Int)).length] rfl SS.out rfl (by simp [Value.oneCell']) HNB.out H8.out ?_))
          intro v' w9 ho9 hg9 _ hat9
          have R9 : Hid (Rm W w9 lb g N (j + 1) v' (l3.appL d3 (payL z (j : Int))) (l3.appD d3 (payL z (j : Int))) F7 (rs ++ [⟨l3.next, 1, payL z (j : Int)⟩])) := Lib.hid (by
            have hbo : Below W.heap.size (w7.alloc (.cells #[.int .u64 l3.next, .int .u32 1, .slice A6 (payL z (j : Int)).length (payL z (j : Int)).length] 40)) w9 := (Below.refl _ _).grown hg9 H8.out (fun k hk => (HROW.out.lt k hk).1)
            have hkp : ∀ k, k < (w7.alloc (.cells #[.int .u64 l3.next, .int .u32 1, .slice A6 (payL z (j : Int)).length (payL z (j : Int)).length] 40)).heap.size → (∀ b, (Value.slice A8 rl.length c8).ownBlock = some b → k ≠ b) → w9.heap[k]? = (w7.alloc (.cells #[.int .u64 l3.next, .int .u32 1, .slice A6 (payL z (j : Int)).length (payL z (j : Int)).length] 40)).heap[k]? := fun k hk hne => hg9.block k hk (fun e => hne _ e.symm rfl)
            refine ⟨⟨⟨L8.out.1.disk.same fun k hk => hkp k (L8.out.1.disk.lt k hk) (fun b hb e => (HV8.out b hb).1 (e ▸ hk)), (hkp lb (block_lt L8.out.1.head) (fun b hb e => (HV8.out b hb).2 e.symm)).trans L8.out.1.head, L8.out.1.nf, L8.out.1.ok, L8.out.1.byt⟩, L8.out.2.1.trans hbo, L8.out.2.2⟩, ?_, RP.out⟩
            rw [← HRL.out]
            exact MadeR.push HV8.out HRS.out S8.out N7.out L8.out.1.disk.lt (block_lt L8.out.1.head) ho9 hg9 (by simpa using hat9))
          clear ho9 hg9 hat9
          go_wp2_with fail
          go_roundg (gk - 1)
          case measure => omega
          case rel => exact ⟨j + 1, by omega, by go_num, _, _, _, _, R9.out⟩
        · have b27 : decide (27 ≤ lf) = false := decide_eq_false h27
          clear h27
          have bq : decide (lf < (z + 81) / 64) = false := decide_eq_false (by have := RLF.out; omega)
          go_wp2_with (first
            | refine wpList_slice_one rfl 30 40 (.tmp 105) rfl 3 (.agg #[.int .u64 0, .int .u32 0, .slice none 0 0]) (.agg #[.int .u64 l3.next, .int .u32 1, .slice A6 (payL z (j : Int)).length (payL z (j : Int)).length]) rfl Try.underlying30 recInfo2 (by decide) (by decide) rfl ?_
            | (at_builtin; refine wpList_append_any rfl (.tmp 102) (.tmp 106) 30 rfl W.heap.size 40 (.agg #[.int .u64 0, .int .u32 0, .slice none 0 0]) 3 40 Try.underlying30 recInfo3 rfl (by decide) (by decide) (.slice A8 rl.length c8) rl.length _ rfl HROW.out (some ⟨w7.heap.size, 0, none⟩) 1 1 [.int .u64 l3.next, .int .u32 1, .slice A6 (payL z (j : Int)).length (payL z (j : Int)).length] rfl SS.out rfl (by simp [Value.oneCell']) HNB.out H8.out ?_))
          intro v' w9 ho9 hg9 _ hat9
          have R9 : Hid (Rm W w9 lb g N (j + 1) v' (l3.appL d3 (payL z (j : Int))) (l3.appD d3 (payL z (j : Int))) F7 (rs ++ [⟨l3.next, 1, payL z (j : Int)⟩])) := Lib.hid (by
            have hbo : Below W.heap.size (w7.alloc (.cells #[.int .u64 l3.next, .int .u32 1, .slice A6 (payL z (j : Int)).length (payL z (j : Int)).length] 40)) w9 := (Below.refl _ _).grown hg9 H8.out (fun k hk => (HROW.out.lt k hk).1)
            have hkp : ∀ k, k < (w7.alloc (.cells #[.int .u64 l3.next, .int .u32 1, .slice A6 (payL z (j : Int)).length (payL z (j : Int)).length] 40)).heap.size → (∀ b, (Value.slice A8 rl.length c8).ownBlock = some b → k ≠ b) → w9.heap[k]? = (w7.alloc (.cells #[.int .u64 l3.next, .int .u32 1, .slice A6 (payL z (j : Int)).length (payL z (j : Int)).length] 40)).heap[k]? := fun k hk hne => hg9.block k hk (fun e => hne _ e.symm rfl)
            refine ⟨⟨⟨L8.out.1.disk.same fun k hk => hkp k (L8.out.1.disk.lt k hk) (fun b hb e => (HV8.out b hb).1 (e ▸ hk)), (hkp lb (block_lt L8.out.1.head) (fun b hb e => (HV8.out b hb).2 e.symm)).trans L8.out.1.head, L8.out.1.nf, L8.out.1.ok, L8.out.1.byt⟩, L8.out.2.1.trans hbo, L8.out.2.2⟩, ?_, RP.out⟩
            rw [← HRL.out]
            exact MadeR.push HV8.out HRS.out S8.out N7.out L8.out.1.disk.lt (block_lt L8.out.1.head) ho9 hg9 (by simpa using hat9))
          clear ho9 hg9 hat9
          go_wp2_with fail
          go_roundg (gk - 1)
          case measure => omega
          case rel => exact ⟨j + 1, by omega, by go_num, _, _, _, _, R9.out⟩
      · have HK := Lib.hid hk
        have hk' : l3.placeOk N (secs z) = false := by simpa using hk
        have RL1 : Hid (lf < 27) := Lib.hid (by
          apply Classical.byContradiction
          intro hge
          exact hk (rl1 (by omega)))
        clear rl1 rl2 hk
        go_wp2_with fail
        refine LA.out.mono ?_
        rintro e w4 ⟨rfl, hb4⟩
        have R4 := Lib.hid (R3.out.step hb4)
        have RO := Lib.hid (room_any R4.out.ls.1 z (by have := Z0.out; have := Z7.out; omega))
        rw [R4.out.p.len, hk'] at RO
        clear hb4 LA
        go_wp2_with fail
        refine RO.out.mono ?_
        rintro e w5 ⟨rfl, hb5⟩
        have R5 := Lib.hid (R4.out.step hb5)
        clear hb5 RO R4
        go_wp2_with fail
        refine (payload_new z _ w5).mono ?_
        rintro e w6 ⟨A6, rfl, hs6, hb6, hn6⟩
        have R6 := Lib.hid (R5.out.step hb6)
        have SM := Lib.hid (payL_small z (j : Int))
        have PL : Hid (((payL z (j : Int)).length : Int) = z) := Lib.hid (payL_len (by have := Z0.out; omega) (by have := Z7.out; omega))
        have N6 : Hid (∀ ad, A6 = some ad → ad.block = w5.heap.size) := Lib.hid hn6
        have S6 := Lib.hid hs6
        have AP := Lib.hid (append_any R6.out.ls.1 _ (payL_small z (j : Int)) (by have := payN_le z; rw [payL_length]; omega) A6 _ hs6 (by have := R6.out.p.pd; omega))
        obtain ⟨al, ad', ae, an⟩ := R6.out.p.full PL.out (by have := Z7.out; omega) hk'
        have S5 : Hid (W.heap.size ≤ w5.heap.size ∧ ¬ F3 w5.heap.size ∧ w5.heap.size ≠ lb ∧ u8.ownBlock ≠ some w5.heap.size) := Lib.hid (by
          refine ⟨R5.out.ls.2.1.size, fun hf => absurd (R5.out.ls.1.disk.lt _ hf) (Nat.lt_irrefl _), fun e => ?_, fun e => ?_⟩
          · have := block_lt R5.out.ls.1.head; omega
          · obtain ⟨_, _, hrow, _⟩ := R5.out.made
            have := (hrow.lt _ e).2; omega)
        have AL := Lib.hid (And.intro al (And.intro ad' (And.intro ae an)))
        have MP := Lib.hid R6.out.p.more
        clear hs6 hb6 hn6 al ad' ae an
        go_wp2_with fail
        refine AP.out.mono ?_
        intro e w7 h7
        obtain ⟨rfl, F7, h71, h72, h73, h74⟩ := R6.out.app h7 S6.out N6.out S5.out.2.1 S5.out.2.2.1 S5.out.2.2.2 S5.out.1
        obtain ⟨al, ad', ae, an⟩ := AL.out
        rw [al, ad'] at h71
        rw [ae, an]
        have R7 : Hid (Rm W w7 lb g N (j + 1) u8 l3 d3 F7 rs) := Lib.hid ⟨h71, h72, MP.out⟩
        have b27 : decide (27 ≤ lf) = false := decide_eq_false (by have := RL1.out; omega)
        clear h7 h71 h72 h73 h74 AP hc hk' al ad' ae an
        go_wp2_with fail
        go_roundg (gk - 1)
        case measure => omega
        case rel => exact ⟨j + 1, by omega, by go_num, _, _, _, _, R7.out⟩
    · have hd3 := R3.out.p.start
      have SC := Lib.hid (scan_any R3.out.ls.1.disk R3.out.ls.1.byt 1 1 1 (by decide) (by decide))
      have hst : startE d3.st.length 1 1 = 0 := by
        have h1 : okB (d3.st.length : Int) 1 = true := hd3.st
        rw [startE, if_pos h1, if_neg (by decide)]
      have hall : scanAll d3 1 1 1 = (rs, l3) := R3.out.p.laid.all hd3 R3.out.p.free (by have := R3.out.p.few; omega)
      have HST := Lib.hid (And.intro hst hall)
      clear hst hall hd3
      go_wp2_with fail
      refine SC.out.mono ?_
      rintro e w7 ⟨v, rfl, hr7, hb7⟩
      rw [if_pos HST.out.1, HST.out.2] at hr7
      rw [if_pos HST.out.1, HST.out.2, HST.out.1]
      have R7 := Lib.hid (R3.out.step hb7)
      have V7 := Lib.hid hr7
      have F7 := Lib.hid (fun k hk => R3.out.ls.1.disk.lt k hk)
      generalize l3.seg = sg at *
      clear hr7 hb7 SC
      go_wp2_with fail
      refine (lsync_any R7.out.ls.1).mono ?_
      rintro e w8 ⟨rfl, F8, h81, h82, h83⟩
      rw [R7.out.p.live.actE]
      obtain ⟨A8, c8, la, rfl, hla, ra, ca, cma⟩ := (V7.out.keep h82 F7.out).at_ R7.out.p.small
      obtain ⟨A9, c9, lb9, rfl, hlb9, rb, cb, cmb⟩ := ((R7.out.made.turn (h82.mono (fun i _ h => .inl h)) h83).recs).at_ R7.out.p.small
      have B8 : Hid (Below W.heap.size W w8) := Lib.hid (R7.out.ls.2.1.trans (h82.below R7.out.ls.2.1.size R7.out.ls.2.2.1))
      have SR := Lib.hid (sameRecs_any ra rb ca cma cb cmb)
      rw [hla, hlb9, decide_eq_true rfl] at SR
      clear h81 h82 h83 hla hlb9 ra rb ca cma cb cmb V7
      go_wp2_with fail
      refine SR.out.mono ?_
      rintro e w9 ⟨rfl, hb9⟩
      have B9 : Hid (Below W.heap.size W w9) := Lib.hid (B8.out.trans (hb9.mono B8.out.size))
      clear hb9
      go_wp2_with fail
      go_ret
      exact ⟨rfl, B9.out⟩
end Go.Proofs.Ytogkibikghbghaa.Wal
