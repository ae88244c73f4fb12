/- Contract of the wal laws' first question. There are no conditions. -/
import Derived.Test.YtogkibikghbghaaFgWalScan
set_option linter.unusedVariables false
set_option linter.unusedSimpArgs false
namespace Go.Proofs.Ytogkibikghbghaa.Wal
open Go.RowKit Go.Proofs.Ytogkibikghbghaa.Fg Go.Proofs.Ytogkibikghbghaa.Frame Go.Proofs.Ytogkibikghbghaa.Disk Go.Proofs.Ytogkibikghbghaa.Area

def xl0 : Lg := Lg.new 3 7 1
def xd0 : Dk := Dk.new 64
def xd1 : Dk := xl0.appD xd0 [97]
def xl1 : Lg := xl0.appL xd0 [97]
def xd2 : Dk := xd1.sync
def xd3 : Dk := xl1.appD xd2 [98]
def xl2 : Lg := xl1.appL xd2 [98]
def xd4 : Dk := xd3.crash []
set_option maxRecDepth 1000000 in
theorem x1 : xl0.appE xd0 [97] = 0 ∧ xl0.appN xd0 [97] = 7 := by decide +kernel
set_option maxRecDepth 1000000 in
theorem x2 : xl1.appE xd2 [98] = 0 ∧ xl1.appN xd2 [98] = 8 := by decide +kernel
set_option maxRecDepth 1000000 in
theorem x4 : (scanAll xd4 3 7 1) = ([⟨7, 3, [97]⟩], ⟨3, 8, 1, 1, 1⟩) := by kernel_rfl
theorem x5 : xd1.actE = 0 ∧ xd1.sync.st.length = xd1.st.length ∧ (xd3.crash []).st.length = xd3.st.length ∧ xl2.next = 9 ∧ xd0.pd.length + 12 < 1000000 ∧ xd2.pd.length + 12 < 1000000 ∧ startE xd4.st.length 7 1 = 0 := by decide +kernel

/-- A log whose blocks are new. -/
def LS (w0 w : World) (lb g : Nat) (l : Lg) (d : Dk) (F : Nat → Prop) : Prop := IsLog w lb g l d F ∧ Below w0.heap.size w0 w ∧ (∀ k, F k → w0.heap.size ≤ k) ∧ w0.heap.size ≤ lb
theorem LS.below {w0 w w' : World} {lb g : Nat} {l : Lg} {d : Dk} {F : Nat → Prop} (h : LS w0 w lb g l d F) (hb : Below w.heap.size w w') : LS w0 w' lb g l d F :=
  ⟨h.1.below hb, h.2.1.trans (hb.mono h.2.1.size), h.2.2⟩
theorem LS.turn {w0 w w' : World} {lb g : Nat} {l : Lg} {d d' : Dk} {F : Nat → Prop} (h : LS w0 w lb g l d F) (t : Turned w g d' F w') (hs : d'.st.length = d.st.length) (hb : Byt d') : ∃ F', LS w0 w' lb g l d' F' := by
  obtain ⟨F', h1, h2, h3⟩ := t
  have hlt := block_lt h.1.head
  refine ⟨F', ⟨h1, (h2.block _ hlt h.1.nf).trans h.1.head, fun hk => (h3 _ hk).elim h.1.nf (fun hk => absurd hlt (Nat.not_lt.2 hk)), by rw [hs]; exact h.1.ok, hb⟩, h.2.1.trans (h2.below h.2.1.size h.2.2.1), fun k hk => (h3 k hk).elim (h.2.2.1 k) (Nat.le_trans h.2.1.size), h.2.2.2⟩
theorem LS.app {w0 w w' : World} {lb g : Nat} {l : Lg} {d : Dk} {F : Nat → Prop} {p : List Int} {e : Ending} (h : LS w0 w lb g l d F) (a : AppE w lb g l d F p e w') :
    e = .returned (.tuple #[.int .u64 (l.appN d p), .int .i64 (l.appE d p)]) ∧ ∃ F', LS w0 w' lb g (l.appL d p) (l.appD d p) F' := by
  obtain ⟨F', h1, h2, h3, h4⟩ := a
  exact ⟨h1, F', h2, h.2.1.trans (h3.below h.2.1.size (fun i hi => hi.elim (h.2.2.1 i) (fun e => e ▸ h.2.2.2))), fun k hk => (h4 k hk).elim (h.2.2.1 k) (Nat.le_trans h.2.1.size), h.2.2.2⟩

set_option maxRecDepth 100000 in
set_option maxHeartbeats 2000000 in
theorem alive_any (w : World) : Calls Try.prog 11 #[] w fun e w' => e = .returned (.bool true) ∧ Below w.heap.size w w' := by
  have kc := fun (w : World) (C : Array Value) (n c : Nat) => Lib.run_convert_bytes_const (P := Try.prog) w 37 5 C n c Try.underlying37 Try.underlying5
  have NEW := Lib.hid (new_any 64 64 w (by decide))
  go_enter Try.func11, Try.ntmps11
  go_wp2_with fail
  refine NEW.out.mono ?_
  rintro e w1 ⟨g, F, rfl, hd, hb, hF⟩
  have HF := Lib.hid hF
  have B1 := Lib.hid hb
  have ST := Lib.hid (start_any hd (Byt.new 64) 3 7 1 (by decide) (by decide))
  clear hd hb hF
  go_wp2_with fail
  refine ST.out.mono ?_
  rintro e w2 ⟨A, rfl, hb2, -, heq⟩
  obtain ⟨lb, rfl, hlb, hL⟩ := heq (by decide +kernel)
  have L2 : Hid (LS w w2 lb g xl0 xd0 F) := Lib.hid ⟨hL, B1.out.trans (hb2.mono B1.out.size), HF.out, Nat.le_trans B1.out.size hlb⟩
  rw [show startE (Dk.new 64).st.length 7 1 = 0 by decide +kernel]
  clear hb2 heq hlb hL ST
  go_wp2_with fail
  have LA := Lib.hid (L2.out.below ((Below.refl _ _).alloc (Nat.le_refl _) (.cells (bv [97]).toArray 5 (1, 2))))
  have AP := Lib.hid (append_any LA.out.1 [97] (by unfold Crc.Small; decide) (by decide) _ _ (Crc.src_at (w := w2) rfl [97] (1, 2) (by decide)) x5.2.2.2.2.1)
  refine AP.out.mono ?_
  intro e w3 h3
  obtain ⟨rfl, F3, h3⟩ := LA.out.app h3
  rw [x1.1, x1.2]
  have L3 : Hid (LS w w3 lb g xl1 xd1 F3) := Lib.hid h3
  clear h3 AP LA L2
  go_wp2_with fail
  refine (lsync_any L3.out.1).mono ?_
  rintro e w4 ⟨rfl, h4⟩
  obtain ⟨F4, h4⟩ := L3.out.turn h4 x5.2.1 L3.out.1.byt.sync
  rw [x5.1]
  have L4 : Hid (LS w w4 lb g xl1 xd2 F4) := Lib.hid h4
  clear h4 L3
  go_wp2_with fail
  have LA := Lib.hid (L4.out.below ((Below.refl _ _).alloc (Nat.le_refl _) (.cells (bv [98]).toArray 5 (1, 2))))
  have AP := Lib.hid (append_any LA.out.1 [98] (by unfold Crc.Small; decide) (by decide) _ _ (Crc.src_at (w := w4) rfl [98] (1, 2) (by decide)) x5.2.2.2.2.2.1)
  refine AP.out.mono ?_
  intro e w5 h5
  obtain ⟨rfl, F5, h5⟩ := LA.out.app h5
  rw [x2.1, x2.2]
  have L5 : Hid (LS w w5 lb g xl2 xd3 F5) := Lib.hid h5
  clear h5 AP LA L4
  go_wp2_with fail
  refine (crash_any L5.out.1.disk [] none 0 ⟨fun _ => ⟨rfl, rfl⟩, Nat.le_refl _, by simp [maxLen], fun _ h => by cases h⟩ (fun _ h => by cases h)).mono ?_
  rintro e w6 ⟨rfl, h6⟩
  obtain ⟨F6, h6⟩ := L5.out.turn h6 x5.2.2.1 (L5.out.1.byt.crash [])
  have L6 : Hid (LS w w6 lb g xl2 xd4 F6) := Lib.hid h6
  clear h6 L5
  go_wp2_with fail
  refine (scan_any L6.out.1.disk L6.out.1.byt 3 7 1 (by decide) (by decide)).mono ?_
  rintro e w7 ⟨v, rfl, hr7, hb7⟩
  rw [if_pos x5.2.2.2.2.2.2, x4] at hr7
  rw [if_pos x5.2.2.2.2.2.2, x4, x5.2.2.2.2.2.2]
  have L7 := Lib.hid (L6.out.below hb7)
  obtain ⟨rl, hrl, hrow, hrs⟩ := hr7
  obtain ⟨x, rfl⟩ : ∃ x, rl = [x] := List.length_eq_one_iff.1 (by have := congrArg List.length hrl; simpa using this)
  obtain ⟨⟨A8, c8⟩, r8⟩ := x
  obtain rfl : r8 = ⟨7, 3, [97]⟩ := by simpa using hrl
  obtain ⟨A9, c9, rfl, hc1, hc2, hc3, hc4⟩ := own_form hrow
  obtain ⟨q, rfl, hcells⟩ : ∃ q, A9 = some ⟨q, 0, none⟩ ∧ ∀ j u, (List.map recC [((A8, c8), (⟨7, 3, [97]⟩ : Rec))]).flatten[j]? = some u → w7.cell? ⟨q, j, none⟩ = some u := by
    cases A9 with
    | none => have := (hc3 rfl).1; simp at this
    | some ad => obtain ⟨q, rfl, h⟩ := hc4 ad rfl; exact ⟨q, rfl, h⟩
  have p2 : w7.cell? ⟨q, 2, none⟩ = some (.slice A8 1 c8) := hcells 2 _ rfl
  have hs8 : Fg.Src w7 A8 1 c8 (bv [97]) := (hrs ((A8, c8), ⟨7, 3, [97]⟩) (List.mem_singleton.2 rfl)).1
  have ts : (convert 37 9 (.slice A8 1 c8)).run Try.prog w7 = .ok (.string (strOfNums [97])) w7 := str_run [97] A8 c8 _ hs8
  have tl : (strOfNums [97]).toList = [97] := by decide +kernel
  have HN := Lib.hid (lnext_any L7.out.1)
  have BF := Lib.hid L7.out.2.1
  clear hrl hrow hrs hcells hc1 hc2 hc3 hc4 hs8 hb7 L6 NEW
  simp only [List.length_cons, List.length_nil, Nat.zero_add]
  go_wp2_with fail
  refine HN.out.mono ?_
  rintro e w8 ⟨rfl, rfl⟩
  rw [x5.2.2.2.1]
  go_wp2_with fail
  go_ret
  exact ⟨rfl, BF.out⟩

set_option maxRecDepth 100000 in
set_option maxHeartbeats 2000000 in
theorem names_any (w : World) : Calls Try.prog 3 #[] w fun e w' => e = .returned (.bool true) ∧ Below w.heap.size w w' := by
  have NEW := Lib.hid (new_any 64 64 w (by decide))
  go_enter Try.func3, Try.ntmps3
  go_wp2_with fail
  refine NEW.out.mono ?_
  rintro e w1 ⟨g, F, rfl, hd, hb, hF⟩
  have D1 := Lib.hid hd
  have B1 := Lib.hid hb
  clear hd hb hF
  go_wp2_with fail
  refine (start_any D1.out (Byt.new 64) 1 1 2 (by decide) (by decide)).mono ?_
  rintro e w2 ⟨A2, rfl, hb2, -, -⟩
  have B2 : Hid (Below w.heap.size w w2) := Lib.hid (B1.out.trans (hb2.mono B1.out.size))
  have D2 := Lib.hid (D1.out.below hb2)
  rw [show startE (Dk.new 64).st.length 1 2 = 91 by decide +kernel]
  clear hb2
  go_wp2_with fail
  refine (start_any D2.out (Byt.new 64) 1 0 0 (by decide) (by decide)).mono ?_
  rintro e w3 ⟨A3, rfl, hb3, -, -⟩
  have B3 : Hid (Below w.heap.size w w3) := Lib.hid (B2.out.trans (hb3.mono B2.out.size))
  rw [show startE (Dk.new 64).st.length 0 0 = 81 by decide +kernel]
  clear hb3
  go_wp2_with fail
  refine (new_any 10 10 w3 (by decide)).mono ?_
  rintro e w4 ⟨g4, F4, rfl, hd4, hb4, hF4⟩
  have D4 := Lib.hid hd4
  have B4 : Hid (Below w.heap.size w w4) := Lib.hid (B3.out.trans (hb4.mono B3.out.size))
  clear hd4 hb4 hF4
  go_wp2_with fail
  refine (scan_any D4.out (Byt.new 10) 1 1 0 (by decide) (by decide)).mono ?_
  rintro e w5 ⟨v, rfl, -, hb5⟩
  have B5 : Hid (Below w.heap.size w w5) := Lib.hid (B4.out.trans (hb5.mono B4.out.size))
  rw [show startE (Dk.new 10).st.length 1 0 = 91 by decide +kernel]
  clear hb5
  go_wp2_with fail
  refine (alive_any w5).mono ?_
  rintro e w6 ⟨rfl, hb6⟩
  have B6 : Hid (Below w.heap.size w w6) := Lib.hid (B5.out.trans (hb6.mono B5.out.size))
  clear hb6
  go_wp2_with fail
  go_ret
  exact ⟨rfl, B6.out⟩
end Go.Proofs.Ytogkibikghbghaa.Wal
