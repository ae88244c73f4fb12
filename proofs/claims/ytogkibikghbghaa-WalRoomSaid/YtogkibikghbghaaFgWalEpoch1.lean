/- The walk of WalEpoch: a log is filled, and scanned under another epoch or number. Conditions: none beyond each lemma's own hypotheses. -/
import Derived.Test.YtogkibikghbghaaFgWalPay
import Derived.Test.YtogkibikghbghaaFgWalEpochPure
import Derived.ChangeSlices
set_option linter.unusedVariables false
set_option linter.unusedSimpArgs false
namespace Go.Proofs.Ytogkibikghbghaa.Wal
open Go.RowKit Go.Proofs.Ytogkibikghbghaa.Fg Go.Proofs.Ytogkibikghbghaa.Frame Go.Proofs.Ytogkibikghbghaa.Disk Go.Proofs.Ytogkibikghbghaa.Area Go.ChangeShapes Go.WideShapes Go.ChangeAt

/-- Numbers as values. -/
def iv (l : List Int) : List Value := l.map (.int .i64)
theorem iv_length (l : List Int) : (iv l).length = l.length := by simp [iv]
set_option maxRecDepth 100000 in
theorem open_ints_arg {H : Type} {enc : TypeId × Value → H} {w : World} {held : Bool} {v : Value} {d : DataW H} {p : List MemPlace} {b0 : Nat} {r : Reach}
    (hv : Value.okWide Try.prog w r b0 34 v) (h : DataW.Trod enc Try.prog w 0 (fun _ => true) held 34 v d p) :
    ∃ (A : Option Addr) (c : Nat) (l : List Int), v = .slice A l.length c ∧ Fg.Src w A l.length c (iv l) ∧ ∀ n ∈ l, (Lit.int .i64 n).wf = true := by
  obtain ⟨a0, len0, cap0, rfl⟩ := okWide_slice Try.underlying34 hv
  obtain ⟨fuel, hf⟩ := h
  have hf' : DataW.trod enc Try.prog w 0 (fun _ => true) held fuel 34 [.slice a0 len0 cap0] = some (d, p) := hf
  rcases open_ints Try.underlying34 Try.underlying3 (by kernel_rfl) hf' with ⟨hcs, _⟩ | ⟨a, len, cap, zs, hcs, _, hl, hm, hz, _, hcell, hwf⟩
  · injection hcs with hcs
    rw [hcs]
    exact ⟨none, 0, [], rfl, ⟨fun _ => ⟨rfl, rfl⟩, Nat.le_refl _, by simp [maxLen], fun _ h => by cases h⟩, fun n hn => by cases hn⟩
  · injection hcs with hcs
    rw [if_pos rfl] at hz
    have hll : (zs.take len).length = len := by rw [List.length_take]; omega
    refine ⟨some a, cap, zs.take len, by rw [hcs, hll], ⟨(fun h => by cases h), by rw [hll]; exact hl, hm, fun ad had j u hu => ?_⟩, fun n hn => hwf n (List.mem_of_mem_take hn)⟩
    injection had with had
    subst had
    have hj : j < len := by
      have := (List.getElem?_eq_some_iff.1 hu).1
      rw [iv_length, hll] at this
      exact this
    rw [hcell j (by omega), ← hu]
    simp [iv, List.getElem?_take_of_lt hj, List.getD_eq_getElem?_getD, List.getElem?_eq_getElem (show j < zs.length by omega)]
/-- Of numbers that lie somewhere, one of them. -/
theorem src_one {W wr : World} {A : Option Addr} {c : Nat} {l : List Int} (h : Fg.Src W A l.length c (iv l)) (hb : Below W.heap.size W wr) {j : Nat} (hj : j < l.length) :
    ∃ ad, A = some ad ∧ wr.cell? (ad.add j) = some (.int .i64 (l[j]'hj)) := by
  cases A with
  | none => have := (h.nil rfl).1; omega
  | some ad =>
    refine ⟨ad, rfl, ?_⟩
    have h0 := h.cells ad rfl j (.int .i64 (l[j]'hj)) (by simp [iv, hj])
    have hbk : ad.block < W.heap.size := h.lt rfl (by
      intro e
      have h1 : (iv l).length = 0 := by rw [e]; rfl
      rw [iv_length] at h1
      omega)
    have e2 : (ad.add j).block = ad.block := by unfold Addr.add; split <;> rfl
    exact (hb.cell (p := ad.add j) (by rw [e2]; exact hbk)).trans h0

theorem new_read (n : Nat) (j : Int) : (Dk.new n).read j = noSec := by
  unfold Dk.read
  split
  · show (List.replicate n noSec).getD j.toNat noSec = noSec
    rw [List.getD_eq_getElem?_getD, List.getElem?_replicate]
    split <;> rfl
  · rfl
def EpRel (W : World) (lb g i : Nat) (w : World) : Prop := ∃ l d F, LS W w lb g l d F ∧ Heads l d ∧ d.st.length = 100 ∧ d.pd.length ≤ i * 12 ∧ l.epoch = 4
theorem EpRel.go {W w' : World} {lb g i : Nat} {l : Lg} {d : Dk} {F' : Nat → Prop} {p : List Int} (hp : Crc.Small p) (h0 : Heads l d) (h1 : d.st.length = 100) (h2 : d.pd.length ≤ i * 12) (h3 : l.epoch = 4)
    (h : LS W w' lb g (l.appL d p) (l.appD d p) F') : EpRel W lb g (i + 1) w' := by
  refine ⟨_, _, _, h, h0.app hp, by rw [appD_st]; exact h1, ?_, ?_⟩
  · have : (l.appD d p).pd.length ≤ d.pd.length + 12 := by
      unfold Lg.appD
      split
      · omega
      · rename_i hp7
        split
        · have h1 := putAll_pd (l.rcd p).made d (l.at_ d.st.length (l.rcd p).many)
          obtain ⟨m1, m2, m3⟩ := rcd_many (l := l) (p := p) (by omega)
          omega
        · omega
    omega
  · unfold Lg.appL; split <;> exact h3
set_option maxRecDepth 100000 in
set_option maxHeartbeats 4000000 in
theorem epoch_any (A : Option Addr) (c : Nat) (l : List Int) (ep : Int) (hep : (Lit.int .u32 ep).wf = true) (sq : Int) (hsq : (Lit.int .u64 sq).wf = true) (W : World) (hs : Fg.Src W A l.length c (iv l)) :
    Calls Try.prog 4 #[.slice A l.length c, .int .u32 ep, .int .u64 sq] W fun e w' => e = .returned (.bool true) ∧ Below W.heap.size W w' := by
  have hw : 0 ≤ ep ∧ ep ≤ 4294967295 := by simpa [Lit.wf, IntKind.min, IntKind.max, IntKind.signed, IntKind.bits] using hep
  have hw2 : 0 ≤ sq ∧ sq ≤ 18446744073709551615 := by simpa [Lit.wf, IntKind.min, IntKind.max, IntKind.signed, IntKind.bits] using hsq
  have HS := Lib.hid hs
  have HW := Lib.hid hw
  have HW2 := Lib.hid hw2
  have hm := hs.most
  have hm2 := hs.cap
  unfold maxLen at hm
  clear hs hep hsq
  go_enter Try.func4, Try.ntmps4
  go_wp2_with fail
  refine (alive_any W).mono ?_
  rintro e w0 ⟨rfl, hb0⟩
  have HB0 := Lib.hid hb0
  clear hb0
  by_cases h0 : (20 : Int) < l.length
  · go_wp2_with fail
    go_ret
    exact ⟨rfl, HB0.out⟩
  by_cases h1 : sq = 0
  · subst h1
    go_wp2_with fail
    go_ret
    exact ⟨rfl, HB0.out⟩
  have NZ := Lib.hid h1
  have c0 : decide ((20 : Int) < l.length) = false := decide_eq_false h0
  have c1 : (sq == 0) = false := by simpa using h1
  by_cases h2 : ep = 4
  · subst h2
    by_cases h3 : sq = 50
    · subst h3
      go_wp2_with fail
      go_ret
      exact ⟨rfl, HB0.out⟩
    have c3 : (sq == 50) = false := by simpa using h3
    go_wp2_with fail
    clear c0 c1 c3
    refine (new_any 100 100 _ (by decide)).mono ?_
    rintro e w1 ⟨g, F, rfl, hd, hb, hF⟩
    have HF := Lib.hid hF
    have B1 : Hid (Below W.heap.size W w1) := Lib.hid (HB0.out.trans (hb.mono HB0.out.size))
    have S1 := Lib.hid HB0.out.size
    have ST := Lib.hid (start_any hd (Byt.new 100) 4 50 0 (by decide) (by decide))
    clear hd hb hF
    go_wp2_with fail
    refine ST.out.mono ?_
    rintro e w2 ⟨A2, rfl, hb2, -, heq⟩
    obtain ⟨lb, rfl, hlb, hL⟩ := heq (by decide +kernel)
    have L2 : Hid (EpRel W lb g 0 w2) := Lib.hid ⟨_, _, F, ⟨hL, B1.out.trans (hb2.mono B1.out.size), fun k hk => Nat.le_trans S1.out (HF.out k hk), Nat.le_trans B1.out.size hlb⟩,
      Heads.new ⟨rfl, rfl⟩ hL.ok (fun j => new_read 100 j), by decide +kernel, Nat.le_refl _, rfl⟩
    rw [show startE (Dk.new 100).st.length 50 0 = 0 by decide +kernel]
    clear hb2 heq hlb hL ST
    go_wp2_with fail
    go_loopg [44] l.length (fun k v wr => ∃ j : Nat, j + k = l.length ∧ v = .int .i64 j ∧ EpRel W lb g j wr)
    case atStart => exact ⟨0, Nat.zero_add _, rfl, L2.out⟩
    case round =>
      obtain ⟨j, hj, rfl, l3, d3, F3, hl3, hh3, hn3, hp3, he3⟩ := hrel
      have L3 := Lib.hid hl3
      have H3 := Lib.hid hh3
      have N3 := Lib.hid hn3
      have P3 := Lib.hid hp3
      have E3 := Lib.hid he3
      clear hl3 hh3 hn3 hp3 he3
      by_cases hlt : j < l.length
      · obtain ⟨ad, rfl, hc⟩ := src_one HS.out L3.out.2.1 hlt
        have hj20 : j < 20 := by omega
        obtain ⟨z, hz⟩ : ∃ z, l[j]'hlt = z := ⟨_, rfl⟩
        rw [hz] at hc
        clear hz
        go_wp2_with fail
        refine (payload_any z _ wr).mono ?_
        rintro e w4 ⟨A4, rfl, hs4, hb4⟩
        have L4 := Lib.hid (L3.out.below hb4)
        have SM := Lib.hid (payL_small z (j : Int))
        have AP := Lib.hid (append_any L4.out.1 _ (payL_small z (j : Int)) (by have := payN_le z; rw [payL_length]; omega) A4 _ hs4 (by have := P3.out; omega))
        clear hs4 hb4
        go_wp2_with fail
        refine AP.out.mono ?_
        intro e w5 h5
        obtain ⟨rfl, F5, h5⟩ := L4.out.app h5
        have R5 : Hid (EpRel W lb g (j + 1) w5) := Lib.hid (EpRel.go SM.out H3.out N3.out P3.out E3.out h5)
        clear h5 AP L4
        go_wp2_with fail
        go_roundg (gk - 1)
        case measure => omega
        case rel => exact ⟨j + 1, by omega, by go_num, R5.out⟩
      · go_wp2_with fail
        refine (scan_any L3.out.1.disk L3.out.1.byt 4 sq 0 (by decide) (by have := HW2.out; omega)).mono ?_
        rintro e w7 ⟨v, rfl, hr7, hb7⟩
        have hst : startE d3.st.length sq 0 = 0 := by rw [N3.out, startE, if_pos (by decide +kernel), if_neg (by have := NZ.out; omega)]
        rw [if_pos hst] at hr7
        rw [if_pos hst, hst]
        have B7 : Hid (Below W.heap.size W w7) := Lib.hid (L3.out.below hb7).2.1
        obtain ⟨rl, hrl, hrow, -⟩ := hr7
        obtain ⟨A7, c7, rfl, hn7, hc7, -⟩ := own_form hrow
        have RA := Lib.hid (RowsAt.of_own hrow (fun r hr => by obtain ⟨x, -, rfl⟩ := List.mem_map.1 hr; rfl) (by decide))
        have SQ : Hid (∀ (i : Nat) (x : (Option Addr × Nat) × Rec), rl[i]? = some x → x.2.epoch = 4 ∧ x.2.seq = (sq + i) % 18446744073709551616) := Lib.hid (fun i x hx =>
          scanF_seq 496 (Lg.new 4 sq 0) d3 i x.2 (by show 0 ≤ sq; have := HW2.out; omega) (by show sq < _; have := HW2.out; omega) (by show (scanAll d3 4 sq 0).1[i]? = _; rw [← hrl, List.getElem?_map, hx]; rfl))
        generalize (scanAll d3 4 sq 0).2.seg = sg at *
        unfold maxLen at hc7
        clear hrl hrow hst hb7
        go_wp2_with fail
        generalize wr = w3 at *
        obtain ⟨n, hn⟩ : ∃ n, rl.length = n := ⟨_, rfl⟩
        rw [hn] at hn7 ⊢
        have HN := Lib.hid hn
        clear hn
        go_loopg [79] n (fun k v wr => ∃ i : Nat, i + k = n ∧ v = .int .i64 i ∧ Below w7.heap.size w7 wr)
        case atStart => exact ⟨0, Nat.zero_add _, rfl, Below.refl _ _⟩
        case round =>
          obtain ⟨i, hi, rfl, hbw⟩ := hrel
          have BW := Lib.hid hbw
          clear hbw
          by_cases hlt : i < n
          · obtain ⟨x, hx⟩ : ∃ x, rl[i]? = some x := ⟨_, List.getElem?_eq_getElem (by rw [HN.out]; exact hlt)⟩
            obtain ⟨q1, q2⟩ := SQ.out i x hx
            obtain ⟨p, rfl, hp, hrg⟩ := (RA.out.below BW.out) i (recC x) (by rw [List.getElem?_map, hx]; rfl)
            obtain ⟨⟨XA, xc⟩, ⟨xs, xe, xp⟩⟩ := x
            simp only at q1 q2
            subst q1
            have WX : (sq + (i : Int)) % 18446744073709551616 = IntKind.u64.wrap (sq + i) := by simp [IntKind.wrap, IntKind.bits, IntKind.signed]
            rw [WX] at q2
            subst q2
            have HRG : Hid (wr.rangeAt p (i * 3) [.int .u64 (IntKind.u64.wrap (sq + i)), .int .u32 4, .slice XA xp.length xc]) := Lib.hid hrg
            have Y1 : Hid ((Try.prog.info? 40).map (·.size) = some ([.int .u64 (IntKind.u64.wrap (sq + i)), .int .u32 4, .slice XA xp.length xc] : List Value).length) := Lib.hid (by kernel_rfl)
            have NX : Hid (Below w7.heap.size w7 (wr.alloc (.cells #[.int .u64 (IntKind.u64.wrap (sq + i)), .int .u32 4, .slice XA xp.length xc] 40))) := Lib.hid (BW.out.alloc BW.out.size _)
            clear hrg hx WX
            go_wp2_with (refine wpList_load_mid rfl 40 (.tmp 82) rfl p (i * 3) rfl [.int .u64 (IntKind.u64.wrap (sq + i)), .int .u32 4, .slice XA xp.length xc] _ HRG.out Try.underlying40 rfl Y1.out ?_)
            go_roundg (gk - 1)
            case measure => omega
            case rel => exact ⟨i + 1, by omega, by go_num, NX.out⟩
          · go_wp2_with fail
            go_ret
            exact ⟨rfl, (B7.out.trans (BW.out.mono B7.out.size))⟩
  · have NE := Lib.hid h2
    have c2 : (ep == 4) = false := by simpa using h2
    go_wp2_with fail
    clear c0 c1 c2
    refine (new_any 100 100 _ (by decide)).mono ?_
    rintro e w1 ⟨g, F, rfl, hd, hb, hF⟩
    have HF := Lib.hid hF
    have B1 : Hid (Below W.heap.size W w1) := Lib.hid (HB0.out.trans (hb.mono HB0.out.size))
    have S1 := Lib.hid HB0.out.size
    have ST := Lib.hid (start_any hd (Byt.new 100) 4 50 0 (by decide) (by decide))
    clear hd hb hF
    go_wp2_with fail
    refine ST.out.mono ?_
    rintro e w2 ⟨A2, rfl, hb2, -, heq⟩
    obtain ⟨lb, rfl, hlb, hL⟩ := heq (by decide +kernel)
    have L2 : Hid (EpRel W lb g 0 w2) := Lib.hid ⟨_, _, F, ⟨hL, B1.out.trans (hb2.mono B1.out.size), fun k hk => Nat.le_trans S1.out (HF.out k hk), Nat.le_trans B1.out.size hlb⟩,
      Heads.new ⟨rfl, rfl⟩ hL.ok (fun j => new_read 100 j), by decide +kernel, Nat.le_refl _, rfl⟩
    rw [show startE (Dk.new 100).st.length 50 0 = 0 by decide +kernel]
    clear hb2 heq hlb hL ST
    go_wp2_with fail
    go_loopg [44] l.length (fun k v wr => ∃ j : Nat, j + k = l.length ∧ v = .int .i64 j ∧ EpRel W lb g j wr)
    case atStart => exact ⟨0, Nat.zero_add _, rfl, L2.out⟩
    case round =>
      obtain ⟨j, hj, rfl, l3, d3, F3, hl3, hh3, hn3, hp3, he3⟩ := hrel
      have L3 := Lib.hid hl3
      have H3 := Lib.hid hh3
      have N3 := Lib.hid hn3
      have P3 := Lib.hid hp3
      have E3 := Lib.hid he3
      clear hl3 hh3 hn3 hp3 he3
      by_cases hlt : j < l.length
      · obtain ⟨ad, rfl, hc⟩ := src_one HS.out L3.out.2.1 hlt
        have hj20 : j < 20 := by omega
        obtain ⟨z, hz⟩ : ∃ z, l[j]'hlt = z := ⟨_, rfl⟩
        rw [hz] at hc
        clear hz
        go_wp2_with fail
        refine (payload_any z _ wr).mono ?_
        rintro e w4 ⟨A4, rfl, hs4, hb4⟩
        have L4 := Lib.hid (L3.out.below hb4)
        have SM := Lib.hid (payL_small z (j : Int))
        have AP := Lib.hid (append_any L4.out.1 _ (payL_small z (j : Int)) (by have := payN_le z; rw [payL_length]; omega) A4 _ hs4 (by have := P3.out; omega))
        clear hs4 hb4
        go_wp2_with fail
        refine AP.out.mono ?_
        intro e w5 h5
        obtain ⟨rfl, F5, h5⟩ := L4.out.app h5
        have R5 : Hid (EpRel W lb g (j + 1) w5) := Lib.hid (EpRel.go SM.out H3.out N3.out P3.out E3.out h5)
        clear h5 AP L4
        go_wp2_with fail
        go_roundg (gk - 1)
        case measure => omega
        case rel => exact ⟨j + 1, by omega, by go_num, R5.out⟩
      · go_wp2_with fail
        refine (scan_any L3.out.1.disk L3.out.1.byt ep sq 0 (by have := HW.out; omega) (by have := HW2.out; omega)).mono ?_
        rintro e w7 ⟨v, rfl, hr7, hb7⟩
        have hst : startE d3.st.length sq 0 = 0 := by rw [N3.out, startE, if_pos (by decide +kernel), if_neg (by have := NZ.out; omega)]
        rw [if_pos hst] at hr7
        rw [if_pos hst, hst]
        have B7 : Hid (Below W.heap.size W w7) := Lib.hid (L3.out.below hb7).2.1
        rw [H3.out.other (by rw [N3.out]; decide +kernel) (by rw [E3.out]; exact NE.out)] at hr7 ⊢
        obtain ⟨rl, hrl, hrow, -⟩ := hr7
        obtain rfl : rl = [] := by simpa using hrl
        obtain ⟨A7, c7, rfl, -⟩ := own_form hrow
        clear hrl hrow hst hb7
        simp only [List.length_nil, Lg.new]
        go_wp2_with fail
        go_ret
        exact ⟨rfl, B7.out⟩
end Go.Proofs.Ytogkibikghbghaa.Wal
