/- The contract of floodgateref10's Scan. Conditions: none beyond each lemma's own hypotheses. -/
import Derived.Test.YtogkibikghbghaaFgWrLaid
import Derived.Test.YtogkibikghbghaaFgWrDisk
import Derived.Test.YtogkibikghbghaaFgWalApp
import Derived.Test.YtogkibikghbghaaFgWalScan
set_option linter.unusedVariables false
set_option linter.unusedSimpArgs false
namespace Go.Proofs.Ytogkibikghbghaa.Wal
open Go.RowKit Go.Proofs.Ytogkibikghbghaa.Fg Go.Proofs.Ytogkibikghbghaa.Frame Go.Proofs.Ytogkibikghbghaa.Disk Go.Proofs.Ytogkibikghbghaa.Area

/-- The document's log. -/
def rl (l : Lg) : Array Value := #[.int .u32 l.epoch, .int .u64 l.next, .int .i64 l.start, .int .i64 l.seg, .int .i64 l.taken]
def lg0 : Lg := ⟨0, 0, 0, 0, 0⟩
theorem rlInfo : (Try.prog.info? 62).map (·.size) = some 5 := by kernel_rfl

def RStartE (w : World) (N epoch seq seg : Int) (e : Ending) (w' : World) : Prop :=
  e = .returned (.tuple #[.agg (rl (if startE N seq seg = 0 then Lg.new epoch seq seg else lg0)), .int .i64 (startE N seq seg)]) ∧ Below w.heap.size w w'
set_option maxRecDepth 100000 in
theorem refstart_any (N epoch seq seg : Int) (w : World) :
    Calls Try.prog 23 #[.int .i64 N, .int .u32 epoch, .int .u64 seq, .int .i64 seg] w (RStartE w N epoch seq seg) := by
  have SG := Lib.hid (fun w' => Ref09.seg_any N seg w')
  by_cases hok : okB N seg = true
  · have e1 : segE N seg = 0 := if_pos hok
    rw [e1] at SG
    clear e1
    by_cases h0 : seq = 0
    · have hE : Hid (∀ w', Below w.heap.size w w' → RStartE w N epoch seq seg (.returned (.tuple #[.agg (rl lg0), .int .i64 81])) w') := Lib.hid (fun w' hb => by
        have e : startE N seq seg = 81 := by rw [startE, if_pos hok, if_pos h0]
        exact ⟨by rw [e, if_neg (by decide)], hb⟩)
      have hq : (seq == 0) = true := beq_iff_eq.2 h0
      clear h0 hok
      go_enter Try.func23, Try.ntmps23
      go_wp2_with fail
      refine (SG.out _).mono ?_
      rintro e w1 ⟨rfl, rfl⟩
      go_wp2_with fail
      exact bodyPost_ret (v := .tuple #[.agg (rl lg0), .int .i64 81]) (by simp [results, Try.results23, go_sem, rl, lg0]) rfl
        (hE.out _ (by repeat (first | exact Below.refl _ _ | refine Below.setCell ?_ (by simp) _ | refine Below.alloc ?_ (by simp) _)))
    · have hE : Hid (∀ w', Below w.heap.size w w' → RStartE w N epoch seq seg (.returned (.tuple #[.agg (rl (Lg.new epoch seq seg)), .int .i64 0])) w') := Lib.hid (fun w' hb => by
        have e : startE N seq seg = 0 := by rw [startE, if_pos hok, if_neg h0]
        exact ⟨by rw [e, if_pos rfl], hb⟩)
      have hq : (seq == 0) = false := beq_eq_false_iff_ne.2 h0
      clear h0 hok
      go_enter Try.func23, Try.ntmps23
      go_wp2_with fail
      refine (SG.out _).mono ?_
      rintro e w1 ⟨rfl, rfl⟩
      go_wp2_with fail
      exact bodyPost_ret (v := .tuple #[.agg (rl (Lg.new epoch seq seg)), .int .i64 0]) (by simp [results, Try.results23, go_sem, rl, Lg.new]) rfl
        (hE.out _ (by repeat (first | exact Below.refl _ _ | refine Below.setCell ?_ (by simp) _ | refine Below.alloc ?_ (by simp) _)))
  · have e1 : segE N seg = 91 := if_neg hok
    have hE : Hid (∀ w', Below w.heap.size w w' → RStartE w N epoch seq seg (.returned (.tuple #[.agg (rl lg0), .int .i64 91])) w') := Lib.hid (fun w' hb => by
      have e : startE N seq seg = 91 := by rw [startE, if_neg hok]
      exact ⟨by rw [e, if_neg (by decide)], hb⟩)
    rw [e1] at SG
    clear e1 hok
    go_enter Try.func23, Try.ntmps23
    go_wp2_with fail
    refine (SG.out _).mono ?_
    rintro e w1 ⟨rfl, rfl⟩
    go_wp2_with fail
    exact bodyPost_ret (v := .tuple #[.agg (rl lg0), .int .i64 91]) (by simp [results, Try.results23, go_sem, rl, lg0]) rfl
      (hE.out _ (by repeat (first | exact Below.refl _ _ | refine Below.setCell ?_ (by simp) _ | refine Below.alloc ?_ (by simp) _)))

theorem next_range {N k : Int} (h : okB N k = true) : nextV N k = (k + 1) % segsN N ∧ 0 ≤ nextV N k ∧ nextV N k < segsN N := by
  have e : nextV N k = (k + 1) % segsN N := if_pos h
  have h2 := nextV_ok h
  obtain ⟨h3, h4, h5, h6, h7⟩ := okB_in h2
  refine ⟨e, h5, by rw [h7]; exact h6⟩

set_option maxRecDepth 100000 in
theorem refleft_any (l : Lg) (N : Nat) (hl : l.ok N) (w : World) :
    Calls Try.prog 32 #[.agg (rl l), .int .i64 N] w fun e w' => e = .returned (.int .i64 (l.left N)) ∧ Below w.heap.size w w' := by
  obtain ⟨a1, a2, a3, a4, a5⟩ := okB_in hl.st
  obtain ⟨-, -, b3, b4, -⟩ := okB_in hl.sg
  have hS : 2 ≤ segsN N ∧ segsN N ≤ 30 := by rw [a5]; omega
  have st1 : l.start < segsN N := by rw [a5]; exact a4
  have sg1 : l.seg < segsN N := by rw [a5]; exact b4
  obtain ⟨n1, n2, n3⟩ := next_range hl.sg
  have hu : usedV N l.start l.seg = (l.seg - l.start) % segsN N + 1 := if_pos ⟨hl.st, hl.sg⟩
  have key : (16 - l.taken) + 16 * ((l.start - nextV N l.seg) % segsN N) = l.left N := by
    unfold Lg.left
    rw [hu, n1]
    have f : ∀ x : Int, -segsN N < x → x < segsN N → x % segsN N = if x < 0 then x + segsN N else x := by
      intro x h1 h2
      split
      · rw [← Int.add_emod_right]; exact Int.emod_eq_of_lt (by omega) (by omega)
      · exact Int.emod_eq_of_lt (by omega) (by omega)
    have e : (l.seg + 1) % segsN N = if l.seg = segsN N - 1 then 0 else l.seg + 1 := by
      split
      · rename_i hh; rw [hh, Int.sub_add_cancel, Int.emod_self]
      · exact Int.emod_eq_of_lt (by omega) (by omega)
    rw [e]
    split
    · rw [f (l.start - 0) (by omega) (by omega), f (l.seg - l.start) (by omega) (by omega)]
      split <;> split <;> omega
    · rw [f _ (by omega) (by omega), f (l.seg - l.start) (by omega) (by omega)]
      split <;> split <;> omega
  have KEY := Lib.hid key
  have LR := Lib.hid (left_range hl)
  have NXT := Lib.hid (fun k (w' : World) => Ref09.next_any (N : Int) k w')
  have OKS : Hid (∀ x : Int, 0 ≤ x → x < segsN N → okB N x = true) := Lib.hid (fun x h1 h2 => by
    have := hl.st
    unfold okB at this ⊢
    simp only [Bool.and_eq_true, decide_eq_true_eq] at this ⊢
    rw [a5] at this h2 ⊢
    omega)
  have e1 : segE N l.seg = 0 := if_pos hl.sg
  have ht := And.intro hl.t0 hl.t1
  have HST : Hid (0 ≤ l.start ∧ l.start < segsN N) := Lib.hid ⟨a3, st1⟩
  have B0 := Lib.hid ((Below.refl w.heap.size w).alloc (Nat.le_refl _) (.cells (rl l) 62))
  have K0 := Lib.hid (heap_alloc_at w (.cells (rl l) 62))
  have hSS := Lib.hid hS
  have HN := Lib.hid (And.intro n2 n3)
  have X1 := Lib.hid e1
  unfold rl at B0 K0 ⊢
  clear hl a1 a2 a3 a4 a5 b3 b4 st1 sg1 n1 n2 n3 hu key e1
  go_enter Try.func32, Try.ntmps32
  go_wp2_with fail
  refine (NXT.out _ _).mono ?_
  rintro e w1 ⟨rfl, rfl⟩
  rw [X1.out]
  go_wp2_with fail
  generalize w.alloc (.cells #[.int .u32 l.epoch, .int .u64 l.next, .int .i64 l.start, .int .i64 l.seg, .int .i64 l.taken] 62) = w1 at *
  have c2 : w1.cell? ⟨w.heap.size, 2, none⟩ = some (.int .i64 l.start) := cell_of_block K0.out 2
  clear hS
  go_loopg [5, 6] 30 (fun g n k wr => ∃ x y : Int, w1 = wr ∧ n = .int .i64 y ∧ k = .int .i64 x ∧ 0 ≤ x ∧ x < segsN N ∧ 0 ≤ y ∧ y + 16 * ((l.start - x) % segsN N) = l.left N ∧ (l.start - x) % segsN N ≤ g)
  case atStart =>
    refine ⟨nextV N l.seg, 16 - l.taken, rfl, rfl, rfl, HN.out.1, HN.out.2, by omega, KEY.out, ?_⟩
    have := hSS.out
    have := Int.emod_lt_of_pos (l.start - nextV N l.seg) (by omega : 0 < segsN N)
    omega
  case round =>
    obtain ⟨x, y, rfl, rfl, rfl, x0, x1, y0, hsum, hg⟩ := hrel
    have HS := Lib.hid hsum
    have HG := Lib.hid hg
    clear hsum hg
    by_cases hx : x = l.start
    · have hb : (x != l.start) = false := by rw [bne_eq_false_iff_eq]; exact hx
      have HX := Lib.hid hx
      clear hx
      go_wp2_with fail
      go_ret
      have e := HS.out
      rw [HX.out, Int.sub_self, Int.zero_emod, Int.mul_zero, Int.add_zero] at e
      refine ⟨?_, B0.out⟩
      rw [← e]
      rfl
    · have hb : (x != l.start) = true := by rw [bne_iff_ne]; exact hx
      have hs2 := hSS.out
      have HD := Lib.hid (Ref09.mod_dec (by omega : 0 < segsN N) x0 x1 HST.out.1 HST.out.2 hx)
      have X2 := Lib.hid (OKS.out x x0 x1)
      have HY : Hid (0 ≤ (l.start - x) % segsN N) := Lib.hid (Int.emod_nonneg _ (by omega))
      have hy : y ≤ 496 := by have := LR.out; have := HS.out; have := HY.out; omega
      clear hx hs2
      go_wp2_with fail
      refine (NXT.out _ _).mono ?_
      rintro e w2 ⟨rfl, rfl⟩
      go_wp2_with fail
      obtain ⟨m1, m2, m3⟩ := next_range X2.out
      have hs1 := HS.out
      have hg1 := HG.out
      have hd1 := HD.out
      have hy1 := HY.out
      have hs2 := hSS.out
      have hz : 0 ≤ (l.start - (x + 1) % segsN N) % segsN N := Int.emod_nonneg _ (by omega)
      go_roundg (gk - 1)
      case rel => exact ⟨_, y + 16, rfl, by first | rfl | rw [w64 (by omega) (by omega)], rfl, m2, m3, by omega, by rw [m1]; omega, by rw [m1]; omega⟩
      case measure => omega

def RPlaceE (w : World) (l : Lg) (N many : Int) (e : Ending) (w' : World) : Prop :=
  ∃ l', e = .returned (.tuple #[.agg (rl l'), .bool (l.placeOk N many)]) ∧ Below w.heap.size w w' ∧ (l.placeOk N many = true → l' = { l with seg := l.placeSeg N many, taken := l.placeAt many })
set_option maxRecDepth 100000 in
theorem refplace_any (l : Lg) (N : Nat) (hl : l.ok N) (many : Int) (hm : 0 ≤ many ∧ many ≤ 12) (w : World) :
    Calls Try.prog 48 #[.agg (rl l), .int .i64 N, .int .i64 many] w (RPlaceE w l N many) := by
  have ht0 := hl.t0
  have ht1 := hl.t1
  obtain ⟨hm0, hm1⟩ := hm
  have NXT := Lib.hid (fun k (w' : World) => Ref09.next_any (N : Int) k w')
  have HL := Lib.hid hl
  have e1 : segE N l.seg = 0 := if_pos hl.sg
  have X1 := Lib.hid e1
  clear hl e1
  by_cases hz : many = 0
  · have hP : Hid (l.placeOk N many = false) := Lib.hid (by simp [Lg.placeOk, hz])
    have hzb : (many == 0) = true := beq_iff_eq.2 hz
    clear hz
    unfold rl
    go_enter Try.func48, Try.ntmps48
    go_wp2_with fail
    exact bodyPost_ret (v := .tuple #[.agg (rl l), .bool false]) (by simp [results, Try.results48, go_sem, rl]) rfl
      ⟨l, by rw [hP.out], by repeat (first | exact Below.refl _ _ | refine Below.setCell ?_ (by simp) _ | refine Below.alloc ?_ (by simp) _), fun hz => by rw [hP.out] at hz; cases hz⟩
  · have hzb : (many == 0) = false := beq_eq_false_iff_ne.2 hz
    by_cases hn : l.next = 0
    · have hP : Hid (l.placeOk N many = false) := Lib.hid (by simp [Lg.placeOk, hn])
      have hnb : (l.next == 0) = true := beq_iff_eq.2 hn
      clear hz hn
      unfold rl
      go_enter Try.func48, Try.ntmps48
      go_wp2_with fail
      exact bodyPost_ret (v := .tuple #[.agg (rl l), .bool false]) (by simp [results, Try.results48, go_sem, rl]) rfl
        ⟨l, by rw [hP.out], by repeat (first | exact Below.refl _ _ | refine Below.setCell ?_ (by simp) _ | refine Below.alloc ?_ (by simp) _), fun hz => by rw [hP.out] at hz; cases hz⟩
    · have hnb : (l.next == 0) = false := beq_eq_false_iff_ne.2 hn
      by_cases hf : l.taken + many ≤ 16
      · have hP : Hid (l.placeOk N many = true ∧ l.placeSeg N many = l.seg ∧ l.placeAt many = l.taken) := Lib.hid ⟨by simp [Lg.placeOk, hn, hz, hf], if_pos hf, if_pos hf⟩
        have hfb : decide (16 < l.taken + many) = false := decide_eq_false (by omega)
        clear hz hn
        unfold rl
        go_enter Try.func48, Try.ntmps48
        go_wp2_with fail
        exact bodyPost_ret (v := .tuple #[.agg (rl l), .bool true]) (by simp [results, Try.results48, go_sem, rl]) rfl
          ⟨l, by rw [hP.out.1], by repeat (first | exact Below.refl _ _ | refine Below.setCell ?_ (by simp) _ | refine Below.alloc ?_ (by simp) _), fun _ => by rw [hP.out.2.1, hP.out.2.2]⟩
      · have hfb : decide (16 < l.taken + many) = true := decide_eq_true (by omega)
        by_cases hs : nextV N l.seg = l.start
        · have hP : Hid (l.placeOk N many = false) := Lib.hid (by simp [Lg.placeOk, hf, hs])
          have hsb : (nextV N l.seg == l.start) = true := beq_iff_eq.2 hs
          clear hz hn hf hs
          unfold rl
          go_enter Try.func48, Try.ntmps48
          go_wp2_with fail
          refine (NXT.out _ _).mono ?_
          rintro e w1 ⟨rfl, rfl⟩
          rw [X1.out]
          go_wp2_with fail
          exact bodyPost_ret (v := .tuple #[.agg (rl l), .bool false]) (by simp [results, Try.results48, go_sem, rl]) rfl
            ⟨l, by rw [hP.out], by repeat (first | exact Below.refl _ _ | refine Below.setCell ?_ (by simp) _ | refine Below.alloc ?_ (by simp) _), fun hz => by rw [hP.out] at hz; cases hz⟩
        · have hP : Hid (l.placeOk N many = true ∧ l.placeSeg N many = nextV N l.seg ∧ l.placeAt many = 0) := Lib.hid ⟨by simp [Lg.placeOk, hn, hz, hs], if_neg hf, if_neg hf⟩
          have hsb : (nextV N l.seg == l.start) = false := beq_eq_false_iff_ne.2 hs
          clear hz hn hf hs
          unfold rl
          go_enter Try.func48, Try.ntmps48
          go_wp2_with fail
          refine (NXT.out _ _).mono ?_
          rintro e w1 ⟨rfl, rfl⟩
          rw [X1.out]
          go_wp2_with fail
          exact bodyPost_ret (v := .tuple #[.agg (rl { l with seg := nextV N l.seg, taken := 0 }), .bool true]) (by simp [results, Try.results48, go_sem, rl]) rfl
            ⟨_, by rw [hP.out.1], by repeat (first | exact Below.refl _ _ | refine Below.setCell ?_ (by simp) _ | refine Below.alloc ?_ (by simp) _), fun _ => by rw [hP.out.2.1, hP.out.2.2]⟩
end Go.Proofs.Ytogkibikghbghaa.Wal

namespace Go.Proofs.Ytogkibikghbghaa.Wal
open Go.RowKit Go.Proofs.Ytogkibikghbghaa.Fg Go.Proofs.Ytogkibikghbghaa.Frame Go.Proofs.Ytogkibikghbghaa.Disk Go.Proofs.Ytogkibikghbghaa.Area

theorem below_step {a b c : World} (h : Below a.heap.size a b) (k : Below b.heap.size b c) : Below a.heap.size a c := h.trans (k.mono h.size)

set_option maxRecDepth 100000 in
set_option maxHeartbeats 2000000 in
theorem refroom_any (l : Lg) (N : Nat) (hl : l.ok N) (p : Int) (hp : -9223372036854775808 ≤ p ∧ p ≤ 9223372036854775807) (w : World) :
    Calls Try.prog 26 #[.agg (rl l), .int .i64 N, .int .i64 p] w fun e w' => e = .returned (.bool (l.placeOk N (secs p))) ∧ Below w.heap.size w w' := by
  have SZ := Lib.hid (fun w' => refsize_any p hp w')
  have PL := Lib.hid (fun w' => refplace_any l N hl (secs p) (secs_range p) w')
  have B0 := Lib.hid ((Below.refl w.heap.size w).alloc (Nat.le_refl _) (.cells (rl l) 62))
  have K0 := Lib.hid (heap_alloc_at w (.cells (rl l) 62))
  unfold rl at *
  clear hl hp
  go_enter Try.func26, Try.ntmps26
  go_upto_region 1 with fail
  generalize w.alloc (.cells #[.int .u32 l.epoch, .int .u64 l.next, .int .i64 l.start, .int .i64 l.seg, .int .i64 l.taken] 62) = w1 at *
  have c0 : w1.cell? ⟨w.heap.size, 0, none⟩ = some (.int .u32 l.epoch) := cell_of_block K0.out 0
  have c1 : w1.cell? ⟨w.heap.size, 1, none⟩ = some (.int .u64 l.next) := cell_of_block K0.out 1
  have c2 : w1.cell? ⟨w.heap.size, 2, none⟩ = some (.int .i64 l.start) := cell_of_block K0.out 2
  have c3 : w1.cell? ⟨w.heap.size, 3, none⟩ = some (.int .i64 l.seg) := cell_of_block K0.out 3
  have c4 : w1.cell? ⟨w.heap.size, 4, none⟩ = some (.int .i64 l.taken) := cell_of_block K0.out 4
  have SB : Hid (∀ w', Below w1.heap.size w1 w' → w'.cell? ⟨w.heap.size, 0, none⟩ = some (.int .u32 l.epoch) ∧ w'.cell? ⟨w.heap.size, 1, none⟩ = some (.int .u64 l.next) ∧ w'.cell? ⟨w.heap.size, 2, none⟩ = some (.int .i64 l.start) ∧ w'.cell? ⟨w.heap.size, 3, none⟩ = some (.int .i64 l.seg) ∧ w'.cell? ⟨w.heap.size, 4, none⟩ = some (.int .i64 l.taken)) := Lib.hid (fun w' hb => by
    have h := fun i => (hb.cell (p := ⟨w.heap.size, i, none⟩) (block_lt K0.out))
    exact ⟨(h 0).trans c0, (h 1).trans c1, (h 2).trans c2, (h 3).trans c3, (h 4).trans c4⟩)
  go_region_held3 (fun w' => w'.cell? ⟨w.heap.size, 0, none⟩ = some (.int .u32 l.epoch) ∧ w'.cell? ⟨w.heap.size, 1, none⟩ = some (.int .u64 l.next) ∧ w'.cell? ⟨w.heap.size, 2, none⟩ = some (.int .i64 l.start) ∧ w'.cell? ⟨w.heap.size, 3, none⟩ = some (.int .i64 l.seg) ∧ w'.cell? ⟨w.heap.size, 4, none⟩ = some (.int .i64 l.taken))
    ((refine SB.out _ ?_; repeat' (first | exact Below.refl _ _ | exact B7.out | exact B7.out.size | exact Nat.le_refl _ | refine Fg.below_dr ?_ | refine Below.setCell ?_ ?_ _ | refine Below.alloc ?_ ?_ _ | (simp; done) | (simp; exact B7.out.size))))
    (first | (go_at_call 47; refine (SZ.out _).mono ?_; rintro e w7 ⟨rfl, rfl⟩) | (go_at_call 48; refine (PL.out _).mono ?_; rintro e w7 ⟨l', rfl, hb7, -⟩; unfold rl; have B7 := Lib.hid (below_step (a := w1) (by repeat' (first | exact Below.refl _ _ | refine Fg.below_dr ?_ | refine Below.alloc ?_ ?_ _ | (simp; done))) hb7); try (have Z5 : Hid (w7.heap[w1.heap.size]? = some (.cells #[.int .u32 0, .int .u64 0, .int .i64 0, .int .i64 0, .int .i64 0] 62 (0, 0))) := Lib.hid ((hb7.block _ (by simp)).trans (heap_alloc_at w1.drew _)); have z0 := cell_of_block Z5.out 0; have z1 := cell_of_block Z5.out 1; have z2 := cell_of_block Z5.out 2; have z3 := cell_of_block Z5.out 3; have z4 := cell_of_block Z5.out 4; have f0 := free_of_block Z5.out 0; have f1 := free_of_block Z5.out 1; have f2 := free_of_block Z5.out 2; have f3 := free_of_block Z5.out 3; have f4 := free_of_block Z5.out 4); clear hb7))
  all_goals
    go_wp2_with fail
    go_ret
    refine ⟨rfl, B0.out.trans ((?_ : Below w1.heap.size w1 _).mono B0.out.size)⟩
    repeat' (first | exact B7.out | refine Below.setCell ?_ ?_ _ | refine Below.alloc ?_ ?_ _ | exact B7.out.size | (simp; done) | exact Nat.le_refl _)
end Go.Proofs.Ytogkibikghbghaa.Wal

namespace Go.Proofs.Ytogkibikghbghaa.Wal
open Go.RowKit Go.Proofs.Ytogkibikghbghaa.Fg Go.Proofs.Ytogkibikghbghaa.Frame Go.Proofs.Ytogkibikghbghaa.Disk Go.Proofs.Ytogkibikghbghaa.Area

/-- What the document's Append leaves. -/
def RAppE (w : World) (l : Lg) (d : Dk) (G : Nat → Prop) (p : List Int) (e : Ending) (w' : World) : Prop :=
  ∃ v, e = .returned (.tuple #[.agg (rl (l.appL d p)), v, .int .u64 (l.appN d p), .int .i64 (l.appE d p)]) ∧ IsRef w' v (l.appD d p) (fun k => G k ∨ w.heap.size ≤ k) ∧ Below w.heap.size w w'
def RLoop (W4 w : World) (b : Nat) (d : Dk) (G : Nat → Prop) (made : List (List Int)) (at_ : Int) (j : Nat) (wr : World) : Prop :=
  ∃ dj C, Keep (fun k => k = b + 1) W4 wr ∧ wr.heap[b + 1]? = some (.cells C 59 (0, 0)) ∧ IsRef wr (.agg C) dj (fun k => G k ∨ w.heap.size ≤ k) ∧
    putAll d at_ made = putAll dj (at_ + j) (made.drop j) ∧ putAllE d at_ made = putAllE dj (at_ + j) (made.drop j) ∧ dj.st = d.st ∧ dj.pd.length ≤ d.pd.length + j

/-- A log and a disk are laid into two blocks, in whichever order; the words k1, k2 are the stores. -/
def RetI (W : World) (b6 b7 k1 k2 : Nat) (Z6 Z7 L C : Array Value) (T6 T7 : TypeId) (d : Nat → Bool) (w : World) : Prop :=
  Keep (fun k => k = b6 ∨ k = b7) W w ∧ w.heap[b6]? = some (.cells (if d k1 = true then L else Z6) T6 (0, 0)) ∧ w.heap[b7]? = some (.cells (if d k2 = true then C else Z7) T7 (0, 0))
theorem Keep.setRow {S : Nat → Prop} {a w : World} (h : Keep S a w) {g : Nat} (hg : S g) (cs : Array Value) : Keep S a (w.setRow g cs) :=
  ⟨h.os, h.tape, h.output, by simpa [World.setRow] using h.size, fun k hk hn => (setRow_other _ _ _ _ (fun e => hn (by rw [e]; exact hg))).trans (h.block k hk hn)⟩
section
variable {W w : World} {b6 b7 k1 k2 : Nat} {Z6 Z7 L C : Array Value} {T6 T7 : TypeId} {d : Nat → Bool}
theorem RetI.start (h6 : W.heap[b6]? = some (.cells Z6 T6 (0, 0))) (h7 : W.heap[b7]? = some (.cells Z7 T7 (0, 0))) : RetI W b6 b7 k1 k2 Z6 Z7 L C T6 T7 (fun _ => false) W.drew :=
  ⟨(Keep.refl _ _).drew, h6, h7⟩
theorem RetI.pass {k : Nat} (h : RetI W b6 b7 k1 k2 Z6 Z7 L C T6 T7 d w) (h1 : k ≠ k1) (h2 : k ≠ k2) : RetI W b6 b7 k1 k2 Z6 Z7 L C T6 T7 (fun j => if j = k then true else d j) w := by
  have e1 : (fun j => if j = k then true else d j) k1 = d k1 := if_neg (Ne.symm h1)
  have e2 : (fun j => if j = k then true else d j) k2 = d k2 := if_neg (Ne.symm h2)
  unfold RetI at h ⊢
  rw [e1, e2]
  exact h
theorem RetI.blk (h : RetI W b6 b7 k1 k2 Z6 Z7 L C T6 T7 d w) {k : Nat} (hk : k < W.heap.size) (h6 : k ≠ b6) (h7 : k ≠ b7) : w.heap[k]? = W.heap[k]? := h.1.block k hk (fun e => e.elim h6 h7)
theorem RetI.old6 (h : RetI W b6 b7 k1 k2 Z6 Z7 L C T6 T7 d w) (hd : d k1 = false) : w.heap[b6]? = some (.cells Z6 T6 (0, 0)) := by
  have := h.2.1
  rw [hd] at this
  exact this
theorem RetI.old7 (h : RetI W b6 b7 k1 k2 Z6 Z7 L C T6 T7 d w) (hd : d k2 = false) : w.heap[b7]? = some (.cells Z7 T7 (0, 0)) := by
  have := h.2.2
  rw [hd] at this
  exact this
theorem RetI.did1 (h : RetI W b6 b7 k1 k2 Z6 Z7 L C T6 T7 d w) (hd : d k1 = false) (hne : b7 ≠ b6) (hk : k2 ≠ k1) : RetI W b6 b7 k1 k2 Z6 Z7 L C T6 T7 (fun j => if j = k1 then true else d j) (w.setRow b6 L) := by
  have e1 : (fun j => if j = k1 then true else d j) k1 = true := if_pos rfl
  have e2 : (fun j => if j = k1 then true else d j) k2 = d k2 := if_neg hk
  unfold RetI
  rw [e1, e2]
  exact ⟨Keep.setRow h.1 (.inl rfl) _, setRow_at _ h.2.1, (setRow_other _ _ _ _ hne).trans h.2.2⟩
theorem RetI.did2 (h : RetI W b6 b7 k1 k2 Z6 Z7 L C T6 T7 d w) (hd : d k2 = false) (hne : b6 ≠ b7) (hk : k1 ≠ k2) : RetI W b6 b7 k1 k2 Z6 Z7 L C T6 T7 (fun j => if j = k2 then true else d j) (w.setRow b7 C) := by
  have e1 : (fun j => if j = k2 then true else d j) k2 = true := if_pos rfl
  have e2 : (fun j => if j = k2 then true else d j) k1 = d k1 := if_neg hk
  unfold RetI
  rw [e1, e2]
  exact ⟨Keep.setRow h.1 (.inr rfl) _, (setRow_other _ _ _ _ hne).trans h.2.1, setRow_at _ h.2.2⟩
theorem RetI.fin (h : RetI W b6 b7 k1 k2 Z6 Z7 L C T6 T7 d w) (h1 : d k1 = true) (h2 : d k2 = true) : Keep (fun k => k = b6 ∨ k = b7) W w ∧ w.heap[b6]? = some (.cells L T6 (0, 0)) ∧ w.heap[b7]? = some (.cells C T7 (0, 0)) := by
  have := h
  unfold RetI at this
  rw [h1, h2] at this
  exact this
end
theorem res_cell2_tmp2 {P : Program} {fn : Func} {p1 p2 q q2 : Tmp} {ty ty2 : TypeId} (h : fn.results = #[.cell p1 ty, .cell p2 ty2, .tmp q, .tmp q2]) (tmps : Array Value) (w : World) (g g2 : Nat) (t t2 : TypeId) (cs cs2 : Array Value) (fr fr2 : Nat × Nat) (d d2 : TypeDesc) (v v2 : Value)
    (hp : tmps.getD p1 undef = .pointer (some ⟨g, 0, none⟩)) (hp2 : tmps.getD p2 undef = .pointer (some ⟨g2, 0, none⟩)) (hq : tmps.getD q undef = v) (hq2 : tmps.getD q2 undef = v2) (hg : w.heap[g]? = some (.cells cs t fr)) (hg2 : w.heap[g2]? = some (.cells cs2 t2 fr2))
    (hu : P.underlying ty = some d) (hd : d.isRow = true) (hi : (P.info? ty).map (·.size) = some cs.size) (hu2 : P.underlying ty2 = some d2) (hd2 : d2.isRow = true) (hi2 : (P.info? ty2).map (·.size) = some cs2.size) : (results fn tmps).run P w = .ok (.tuple #[.agg cs, .agg cs2, v, v2]) w := by
  have hp' : tmps[p1]?.getD undef = .pointer (some ⟨g, 0, none⟩) := by simpa using hp
  have hp2' : tmps[p2]?.getD undef = .pointer (some ⟨g2, 0, none⟩) := by simpa using hp2
  have hq' : tmps[q]?.getD undef = v := by simpa using hq
  have hq2' : tmps[q2]?.getD undef = v2 := by simpa using hq2
  have hl := load_block hg d hu hd hi
  have hl2 := load_block hg2 d2 hu2 hd2 hi2
  simp [results, h, hp', hp2', hq', hq2', asAddr, hl, hl2]

/-- A disk's value stays where two blocks that hold none of its rows turn. -/
theorem ref_keep2 {w w' : World} {v : Value} {d : Dk} {G : Nat → Prop} (h : IsRef w v d G) {b6 b7 : Nat} (hk : Keep (fun k => k = b6 ∨ k = b7) w w') {c6 c7 : Array Value} {t6 t7 : TypeId} {f6 f7 : Nat × Nat} (h6 : w.heap[b6]? = some (.cells c6 t6 f6)) (h7 : w.heap[b7]? = some (.cells c7 t7 f7))
    (n6 : t6 ≠ 77) (m6 : t6 ≠ 117) (n7 : t7 ≠ 77) (m7 : t7 ≠ 117) : IsRef w' v d G := by
  obtain ⟨A1, c1, A2, c2, lr, e, r, g⟩ := h
  exact ⟨A1, c1, A2, c2, lr, e, ⟨r.ok, r.few, own_same r.st fun k hk' => hk.block k (r.st.lt k hk').2 (fun e => e.elim (own_ne r.st hk' h6 n6) (own_ne r.st hk' h7 n7)), own_same r.pd fun k hk' => hk.block k (r.pd.lt k hk').2 (fun e => e.elim (own_ne r.pd hk' h6 m6) (own_ne r.pd hk' h7 m7)), r.eq, r.wf⟩, g⟩

def rd0 : Array Value := #[.slice none 0 0, .slice none 0 0, .bool false, .int .i64 0, .bool false]
theorem four_allocs (w : World) (o1 o2 o3 o4 : Obj) :
    let w1 := (((w.alloc o1).alloc o2).alloc o3).alloc o4
    Below w.heap.size w w1 ∧ w1.heap[w.heap.size]? = some o1 ∧ w1.heap[w.heap.size + 1]? = some o2 ∧ w1.heap[w.heap.size + 1 + 1]? = some o3 ∧ w1.heap[w.heap.size + 1 + 1 + 1]? = some o4 ∧ w1.heap.size = w.heap.size + 4 := by
  have s1 : (w.alloc o1).heap.size = w.heap.size + 1 := by simp
  have s2 : ((w.alloc o1).alloc o2).heap.size = w.heap.size + 1 + 1 := by simp
  have s3 : (((w.alloc o1).alloc o2).alloc o3).heap.size = w.heap.size + 1 + 1 + 1 := by simp
  refine ⟨((((Below.refl _ _).alloc (Nat.le_refl _) _).alloc (by simp) _).alloc (by simp; omega) _).alloc (by simp; omega) _, ?_, ?_, ?_, ?_, by simp⟩
  · rw [heap_alloc_old _ _ (by rw [s3]; omega), heap_alloc_old _ _ (by rw [s2]; omega), heap_alloc_old _ _ (by rw [s1]; omega)]; exact heap_alloc_at _ _
  · rw [heap_alloc_old _ _ (by rw [s3]; omega), heap_alloc_old _ _ (by rw [s2]; omega), ← s1]; exact heap_alloc_at _ _
  · rw [heap_alloc_old _ _ (by rw [s3]; omega), ← s2]; exact heap_alloc_at _ _
  · rw [← s3]; exact heap_alloc_at _ _

set_option maxRecDepth 100000 in
set_option maxHeartbeats 4000000 in
theorem refappend_any {w : World} {v : Value} {d : Dk} {G : Nat → Prop} (hr : IsRef w v d G) (l : Lg) (hl : l.ok d.st.length) (p : List Int) (hsm : Crc.Small p) (hlen : p.length ≤ 100000) (A : Option Addr) (c : Nat) (hs : Fg.Src w A p.length c (bv p)) (hn : d.pd.length + 12 < 1000000) :
    Calls Try.prog 24 #[.agg (rl l), v, .slice A p.length c] w (RAppE w l d G p) := by
  have HR := Lib.hid hr
  obtain ⟨C0, rfl, hc1, hc2⟩ := hr.form
  have HC1 := Lib.hid hc1
  have HC2 := Lib.hid hc2
  have HS := Lib.hid hs
  have HL := Lib.hid hl
  have HSM := Lib.hid hsm
  have HLEN := Lib.hid hlen
  have HN := Lib.hid hn
  have U0 : Hid ((Try.prog.info? 59).map (·.size) = some C0.size) := Lib.hid (by rw [hc1]; exact info_rd)
  have FA := Lib.hid (four_allocs w (.cells (rl l) 62) (.cells C0 59) (.cells (rl lg0) 62) (.cells rd0 59))
  have hplen : (p.length : Int) ≤ 100000 := by omega
  have SZ := Lib.hid (fun w' => refsize_any p.length ⟨by omega, by omega⟩ w')
  have ST0 : ∃ A1 c1, C0[0]? = some (.slice A1 d.st.length c1) := by
    obtain ⟨A1, c1, A2, c2, lr, e, -⟩ := hr
    injection e with e
    exact ⟨A1, c1, by rw [e]; rfl⟩
  obtain ⟨A1, c1, hst0⟩ := ST0
  have ST0 := Lib.hid hst0
  clear hr hs hl hsm hlen hn hc1 hc2 hst0
  unfold rl lg0 rd0 at FA
  unfold rl
  go_enter Try.func24, Try.ntmps24
  go_upto_region 1 with fail
  generalize (((w.alloc (.cells #[.int .u32 l.epoch, .int .u64 l.next, .int .i64 l.start, .int .i64 l.seg, .int .i64 l.taken] 62)).alloc (.cells C0 59)).alloc (.cells #[.int .u32 0, .int .u64 0, .int .i64 0, .int .i64 0, .int .i64 0] 62)).alloc (.cells #[.slice none 0 0, .slice none 0 0, .bool false, .int .i64 0, .bool false] 59) = w1 at *
  have B1 := Lib.hid FA.out.1
  have K3 := Lib.hid FA.out.2.1
  have K4 := Lib.hid FA.out.2.2.1
  have K6 := Lib.hid FA.out.2.2.2.1
  have K7 := Lib.hid FA.out.2.2.2.2.1
  have HZ1 := Lib.hid FA.out.2.2.2.2.2
  have FIN : Hid (∀ (W2 w' : World) (L' C' : Array Value) (d' : Dk) (n r : Int), Below w.heap.size w W2 → Keep (fun k => k = w.heap.size + 1 + 1 ∨ k = w.heap.size + 1 + 1 + 1) W2 w' → IsRef W2 (.agg C') d' (fun k => G k ∨ w.heap.size ≤ k) → W2.heap[w.heap.size + 1 + 1]? = some (.cells #[.int .u32 0, .int .u64 0, .int .i64 0, .int .i64 0, .int .i64 0] 62 (0, 0)) → W2.heap[w.heap.size + 1 + 1 + 1]? = some (.cells #[.slice none 0 0, .slice none 0 0, .bool false, .int .i64 0, .bool false] 59 (0, 0)) →
      l.appD d p = d' → rl (l.appL d p) = L' → l.appN d p = n → l.appE d p = r → RAppE w l d G p (.returned (.tuple #[.agg L', .agg C', .int .u64 n, .int .i64 r])) w') := Lib.hid (by
    intro W2 w' L' C' d' n r hb hk hr h6 h7 e1 e2 e3 e4
    refine ⟨.agg C', by rw [e2, e3, e4], ?_, hb.trans (hk.below hb.size (fun i hi => by omega))⟩
    rw [e1]
    exact ref_keep2 hr hk h6 h7 (by decide) (by decide) (by decide) (by decide))
  clear FA
  go_wp2_with fail
  refine (SZ.out _).mono ?_
  rintro e w2 ⟨rfl, rfl⟩
  by_cases h7 : 700 < p.length
  · have hz : secs p.length = 0 := if_neg (by omega)
    have HE : Hid (l.appE d p = 81 ∧ l.appD d p = d ∧ l.appL d p = l ∧ l.appN d p = 0) := Lib.hid (by
      have e1 : l.appE d p = 81 := if_pos h7
      exact ⟨e1, if_pos h7, if_neg (by rw [e1]; decide), if_neg (by rw [e1]; decide)⟩)
    rw [hz]
    clear hz h7
    go_upto_region 3 with fail
    apply wp_region_words2 (fun _ _ => True) (RetI w2 (w.heap.size + 1 + 1) (w.heap.size + 1 + 1 + 1) 2 3 #[.int .u32 0, .int .u64 0, .int .i64 0, .int .i64 0, .int .i64 0] #[.slice none 0 0, .slice none 0 0, .bool false, .int .i64 0, .bool false] #[.int .u32 l.epoch, .int .u64 l.next, .int .i64 l.start, .int .i64 l.seg, .int .i64 l.taken] C0 62 59)
      [isVal (.agg #[.int .u32 l.epoch, .int .u64 l.next, .int .i64 l.start, .int .i64 l.seg, .int .i64 l.taken]), isVal (.agg C0), fun _ _ => True, fun _ _ => True, isVal _, isVal _]
      [[], [], [0], [1], [], []] [0, 1, 2, 3, 4, 5] (by kernel_rfl) (by kernel_rfl) ?hFa ?standa ?hIa ?stepsa ?fina
    case hFa => intro v; simp [fillFrom, Act.put]; rfl
    case standa =>
      repeat' (first | exact trivial | (refine And.intro ?_ ?_))
      all_goals first | exact (fun _ _ _ _ _ _ => trivial) | (intro u w w' h _ _; exact h)
    case hIa => exact RetI.start K6.out K7.out
    case stepsa =>
      refine And.intro ?_ ?_
      · intro d v w' hdk hI hdn hd K hK
        simp only [allOf, word, List.getD_cons_zero, List.getD_cons_succ, isVal, and_true, true_and] at hd
        have HK := Lib.hid hK
        clear hK
        rw [if_pos (by rfl)]
        have hgw := (hI.blk (block_lt K3.out) (by omega) (by omega)).trans K3.out
        refine wp_load_block 62 (.tmp 3) rfl (w.heap.size) rfl #[.int .u32 l.epoch, .int .u64 l.next, .int .i64 l.start, .int .i64 l.seg, .int .i64 l.taken] 62 (0, 0) hgw _ Try.underlying62 rfl (by kernel_rfl) ?_
        exact HK.out _ _ rfl (hI.pass (by decide) (by decide)) trivial
      refine And.intro ?_ ?_
      · intro d v w' hdk hI hdn hd K hK
        simp only [allOf, word, List.getD_cons_zero, List.getD_cons_succ, isVal, and_true, true_and] at hd
        have HK := Lib.hid hK
        clear hK
        rw [if_pos (by rfl)]
        have hgw := (hI.blk (block_lt K4.out) (by omega) (by omega)).trans K4.out
        refine wp_load_block 59 (.tmp 4) rfl (w.heap.size + 1) rfl C0 59 (0, 0) hgw _ Try.underlying59 rfl U0.out ?_
        exact HK.out _ _ rfl (hI.pass (by decide) (by decide)) trivial
      refine And.intro ?_ ?_
      · intro d v w' hdk hI hdn hd K hK
        simp only [allOf, word, List.getD_cons_zero, List.getD_cons_succ, isVal, and_true, true_and] at hd
        have HK := Lib.hid hK
        clear hK
        rw [if_pos (by rfl)]
        refine wp_store_block 62 (.tmp 6) (.tmp 27) rfl (w.heap.size + 1 + 1) #[.int .u32 l.epoch, .int .u64 l.next, .int .i64 l.start, .int .i64 l.seg, .int .i64 l.taken] rfl hd _ _ (hI.old6 hdk) (by kernel_rfl) rfl (by simp [Value.oneCell']) ?_
        exact HK.out _ _ trivial (hI.did1 hdk (by omega) (by decide)) trivial
      refine And.intro ?_ ?_
      · intro d v w' hdk hI hdn hd K hK
        simp only [allOf, word, List.getD_cons_zero, List.getD_cons_succ, isVal, and_true, true_and] at hd
        have HK := Lib.hid hK
        clear hK
        rw [if_pos (by rfl)]
        refine wp_store_block 59 (.tmp 7) (.tmp 28) rfl (w.heap.size + 1 + 1 + 1) C0 rfl hd _ _ (hI.old7 hdk) U0.out (by rw [HC1.out]; rfl) HC2.out ?_
        exact HK.out _ _ trivial (hI.did2 hdk (by omega) (by decide)) trivial
      refine And.intro ?_ ?_
      · intro d v w' hdk hI hdn hd K hK
        simp only [allOf, word, List.getD_cons_zero, List.getD_cons_succ, isVal, and_true, true_and] at hd
        have HK := Lib.hid hK
        clear hK
        go_simp
        exact HK.out _ _ rfl (hI.pass (by decide) (by decide)) (trivial)
      refine And.intro ?_ ?_
      · intro d v w' hdk hI hdn hd K hK
        simp only [allOf, word, List.getD_cons_zero, List.getD_cons_succ, isVal, and_true, true_and] at hd
        have HK := Lib.hid hK
        clear hK
        go_simp
        exact HK.out _ _ rfl (hI.pass (by decide) (by decide)) (trivial)
      exact trivial
    intro v w6 dn hall hI hd
    simp only [allOf, word, List.getD_cons_zero, List.getD_cons_succ, isVal, and_true, true_and] at hd
    obtain ⟨h0, h1, h4, h5⟩ := hd
    simp only [h0, h1, h4, h5]
    clear h0 h1 h4 h5
    obtain ⟨f1, f2, f3⟩ := hI.fin (hall 2 (by decide)) (hall 3 (by decide))
    clear hI hall
    go_wp2_with fail
    exact bodyPost_ret (v := .tuple #[.agg #[.int .u32 l.epoch, .int .u64 l.next, .int .i64 l.start, .int .i64 l.seg, .int .i64 l.taken], .agg C0, .int .u64 0, .int .i64 81]) (res_cell2_tmp2 Try.results24 _ _ (w.heap.size + 1 + 1) (w.heap.size + 1 + 1 + 1) 62 59 _ _ (0, 0) (0, 0) _ _ _ _ rfl rfl rfl rfl f2 f3 Try.underlying62 rfl rlInfo Try.underlying59 rfl U0.out) rfl
      (FIN.out w2 w6 _ _ d 0 81 B1.out f1 ((HR.out.below B1.out).mono fun k _ hk => .inl hk) K6.out K7.out HE.out.2.1 (by rw [HE.out.2.2.1]; rfl) HE.out.2.2.2 HE.out.1)
  · have HG7 : Hid (p.length ≤ 700) := Lib.hid (by omega)
    obtain ⟨m, hm⟩ : ∃ m, (l.rcd p).many = m := ⟨_, rfl⟩
    have HM := Lib.hid hm
    have hms : secs p.length = m := by
      have := (secs_range p.length).1
      rw [← hm, Rec.many]
      show secs p.length = ((secs p.length).toNat : Int)
      omega
    have HMS := Lib.hid hms
    have hmr : (m : Int) = (p.length + 81) / 64 := by rw [← hms, secs, if_pos (by omega)]
    have hm1 : (1 : Int) ≤ m := by omega
    have hm12 : (m : Int) ≤ 12 := by omega
    have hmz : ((m : Int) == 0) = false := beq_eq_false_iff_ne.2 (by omega)
    have HE : Hid (l.appE d p = (if l.placeOk d.st.length m = true then putAllE d (l.at_ d.st.length m) (l.rcd p).made else 101) ∧
      l.appD d p = (if l.placeOk d.st.length m = true then putAll d (l.at_ d.st.length m) (l.rcd p).made else d)) := Lib.hid (by rw [← hm]; exact ⟨if_neg h7, if_neg h7⟩)
    have PL := Lib.hid (fun w' => refplace_any l d.st.length HL.out m ⟨by omega, hm12⟩ w')
    unfold rl at PL
    rw [hms]
    have c40 : w2.cell? ⟨w.heap.size + 1, 0, none⟩ = some (.slice A1 d.st.length c1) := (cell_of_block K4.out 0).trans ST0.out
    clear hm hms hmr h7
    go_wp2_with (refine wpList_load_block rfl 62 (.tmp 3) rfl w.heap.size rfl #[.int .u32 l.epoch, .int .u64 l.next, .int .i64 l.start, .int .i64 l.seg, .int .i64 l.taken] 62 (0, 0) K3.out _ Try.underlying62 rfl rlInfo ?_)
    refine (PL.out _).mono ?_
    rintro e w3 ⟨l', rfl, hb3, hl'⟩
    unfold rl
    have B3 : Hid (Below w.heap.size w w3) := Lib.hid (B1.out.trans (hb3.mono B1.out.size))
    have B23 := Lib.hid hb3
    have HL' := Lib.hid hl'
    have SZ3 : Hid (w.heap.size + 4 ≤ w3.heap.size) := Lib.hid (by have := hb3.size; have := HZ1.out; omega)
    clear hb3 hl' PL
    have B4 := Lib.hid ((Below.refl w3.heap.size w3).alloc (Nat.le_refl _) (.cells #[.int .u32 l'.epoch, .int .u64 l'.next, .int .i64 l'.start, .int .i64 l'.seg, .int .i64 l'.taken] 62))
    have K11 := Lib.hid (heap_alloc_at w3 (.cells #[.int .u32 l'.epoch, .int .u64 l'.next, .int .i64 l'.start, .int .i64 l'.seg, .int .i64 l'.taken] 62))
    by_cases hok : l.placeOk d.st.length m = true
    · obtain rfl := HL'.out hok
      rw [if_pos hok, if_pos hok] at HE
      rw [hok]
      have HNX : Hid (l.next ≠ 0) := Lib.hid (fun h0 => by rw [Lg.placeOk, h0] at hok; simp at hok)
      have PR := Lib.hid (place_range HL.out (many := (m : Int)) ⟨by omega, hm12⟩)
      clear hok HL'
      go_upto_region 7 with fail
      try dsimp only at K11 B4 ⊢
      generalize w3.alloc (.cells #[.int .u32 l.epoch, .int .u64 l.next, .int .i64 l.start, .int .i64 (l.placeSeg d.st.length m), .int .i64 (l.placeAt m)] 62) = w4 at *
      have B24 : Hid (Below w2.heap.size w2 w4) := Lib.hid (B23.out.trans (B4.out.mono B23.out.size))
      have N3 := Lib.hid ((B24.out.block _ (block_lt K3.out)).trans K3.out)
      have c0 := cell_of_block N3.out 0
      have c1' := cell_of_block N3.out 1
      have HG : Hid (l.rcd p = ⟨l.next, l.epoch, p⟩) := Lib.hid (by unfold Lg.rcd; rw [if_neg HNX.out])
      have HGD : Hid ((l.rcd p).good) := Lib.hid ⟨HG7.out, by rw [HG.out]; exact HNX.out⟩
      have MK := Lib.hid (refmake_any (l.rcd p) (by rw [HG.out]; exact ⟨HL.out.n0, HL.out.n1, HL.out.e0, HL.out.e1, HSM.out⟩) (by rw [HG.out]; exact HLEN.out) A c w4 (by rw [HG.out]; exact HS.out.same fun ad had hne => (B1.out.trans (B24.out.mono B1.out.size)).block _ (HS.out.lt had hne)))
      rw [HG.out] at MK
      unfold recv at MK
      have HGE : Hid ((l.rcd p).err = 0) := Lib.hid (if_pos HGD.out)
      rw [HG.out] at HGE
      go_wp2_with fail
      refine MK.out.mono ?_
      rintro e w5 ⟨A5, c5, rfl, ho5, hb5⟩
      rw [HGE.out]
      have HML : Hid ((l.rcd p).made.length = m) := Lib.hid ((Rec.made_length HGD.out).trans HM.out)
      have HOK : Hid (Secs (l.rcd p).made) := Lib.hid (Rec.made_secs HSM.out)
      rw [HG.out] at HML HOK
      have SL := Lib.hid (SecsAt.of_own ho5 HOK.out)
      rw [HML.out] at ho5 ⊢
      have HOB := Lib.hid (fun k hk => (ho5.lt k hk).1)
      have B5 : Hid (Below w.heap.size w w5) := Lib.hid (B1.out.trans ((B24.out.trans (hb5.mono B24.out.size)).mono B1.out.size))
      have B25 : Hid (Below w2.heap.size w2 w5) := Lib.hid (B24.out.trans (hb5.mono B24.out.size))
      have J3 := Lib.hid ((B25.out.block _ (block_lt K3.out)).trans K3.out)
      have J4 := Lib.hid ((B25.out.block _ (block_lt K4.out)).trans K4.out)
      have J6 := Lib.hid ((B25.out.block _ (block_lt K6.out)).trans K6.out)
      have J7 := Lib.hid ((B25.out.block _ (block_lt K7.out)).trans K7.out)
      have J11 := Lib.hid ((hb5.block _ (block_lt K11.out)).trans K11.out)
      have T11 : Hid (w3.heap.size < w4.heap.size) := Lib.hid (block_lt K11.out)
      have d0 : w5.cell? ⟨w.heap.size + 1, 0, none⟩ = some (.slice A1 d.st.length c1) := (cell_of_block J4.out 0).trans ST0.out
      have d3 := cell_of_block J11.out 3
      have e1 : segE d.st.length (l.placeSeg d.st.length m) = 0 := if_pos PR.out.1
      have SG := Lib.hid (fun w' => Ref09.seg_any (d.st.length : Int) (l.placeSeg d.st.length m) w')
      rw [e1] at SG
      have hat : Hid (l.at_ d.st.length m = segV d.st.length (l.placeSeg d.st.length m) + l.placeAt m) := Lib.hid rfl
      have hsgv : segV d.st.length (l.placeSeg d.st.length m) = 32 + l.placeSeg d.st.length m * 16 := if_pos PR.out.1
      have hsgr := okB_in PR.out.1
      obtain ⟨fst, hfst⟩ : ∃ x, segV d.st.length (l.placeSeg d.st.length m) = x := ⟨_, rfl⟩
      rw [hfst] at hat SG
      have hfr : 0 ≤ fst ∧ fst ≤ 512 := by rw [← hfst, hsgv]; omega
      obtain ⟨hfr0, hfr1⟩ := hfr
      have hp0 := PR.out.2.1
      have hp1 := PR.out.2.2
      have HPS : Hid (l.appE d p = 0 → rl (l.appL d p) = #[.int .u32 l.epoch, .int .u64 ((l.next + 1) % 18446744073709551616), .int .i64 l.start, .int .i64 (l.placeSeg d.st.length m), .int .i64 (l.placeAt m + m)]) := Lib.hid (fun h => by
        unfold Lg.appL
        rw [if_pos h, HM.out]
        rfl)
      rw [hat.out, HG.out] at HE
      obtain ⟨sgv, hsgv'⟩ : ∃ x, l.placeSeg d.st.length m = x := ⟨_, rfl⟩
      obtain ⟨pa, hpa⟩ : ∃ x, l.placeAt m = x := ⟨_, rfl⟩
      rw [hsgv'] at J11 d3 SG HPS
      rw [hpa] at J11 d3 hp0 hp1 HE HPS
      clear hsgv hsgr hpa hsgv' e1 hfst PR K11 N3 c0 c1' MK ho5 hb5 B4 hat
      go_wp2_with fail
      refine (SG.out w5).mono ?_
      rintro e w5' ⟨rfl, rfl⟩
      obtain ⟨b6, o6, hA6, hb6⟩ := SL.out.some_of (by rw [HML.out]; omega)
      subst hA6
      have HB6 : Hid (w4.heap.size ≤ b6) := Lib.hid (HOB.out b6 rfl)
      have W1 : IntKind.i64.wrap (fst + pa) = fst + pa := by rw [IntKind.wrap_i64]; omega
      have HS5 : Hid (w.heap.size + 4 ≤ w5.heap.size ∧ w3.heap.size < w5.heap.size ∧ b6 < w5.heap.size ∧ w.heap.size + 4 ≤ w3.heap.size) := Lib.hid ⟨Nat.le_trans SZ3.out (Nat.le_of_lt (block_lt J11.out)), block_lt J11.out, hb6, SZ3.out⟩
      clear d0 d3 hb6
      go_wp2_with fail
      go_loopg [63] m (fun k i wr => ∃ j : Nat, j + k = m ∧ i = .int .i64 j ∧ RLoop w5 w w.heap.size d G (Rec.made ⟨l.next, l.epoch, p⟩) (fst + pa) j wr)
      case atStart => exact ⟨0, Nat.zero_add _, rfl, d, C0, Keep.refl _ _, J4.out, (HR.out.below B5.out).mono fun k _ hk => .inl hk, by simp, by simp, rfl, Nat.le_refl _⟩
      case round =>
        obtain ⟨j, hj, rfl, dj, C, r1, r2, r3, r4, r5, r6, r7⟩ := hrel
        obtain ⟨C', e, hc1, hc2⟩ := r3.form
        injection e with e
        subst e
        have R1 := Lib.hid r1
        have R2 := Lib.hid r2
        have R3 := Lib.hid r3
        have R4 := Lib.hid r4
        have R5 := Lib.hid r5
        have R6 := Lib.hid r6
        have R7 := Lib.hid r7
        have UC : Hid ((Try.prog.info? 59).map (·.size) = some C.size) := Lib.hid (by rw [hc1]; exact info_rd)
        have HC1' := Lib.hid hc1
        have HC2' := Lib.hid hc2
        have L11 : Hid (wr.heap[w3.heap.size]? = _) := Lib.hid ((r1.block _ HS5.out.2.1 (by show ¬ _ = _; have := HS5.out.2.2.2; omega)).trans J11.out)
        have L3 : Hid (wr.heap[w.heap.size]? = _) := Lib.hid ((r1.block _ (block_lt J3.out) (by show ¬ _ = _; omega)).trans J3.out)
        have L6 : Hid (wr.heap[w.heap.size + 1 + 1]? = _) := Lib.hid ((r1.block _ (block_lt J6.out) (by show ¬ _ = _; omega)).trans J6.out)
        have L7 : Hid (wr.heap[w.heap.size + 1 + 1 + 1]? = _) := Lib.hid ((r1.block _ (block_lt J7.out) (by show ¬ _ = _; omega)).trans J7.out)
        have BR : Hid (Below w.heap.size w wr) := Lib.hid (B5.out.trans (r1.below B5.out.size (fun i hi => by omega)))
        clear r1 r2 r3 r4 r5 r6 r7 hc1 hc2
        by_cases hlt : j < m
        · have hjm : j < (Rec.made ⟨l.next, l.epoch, p⟩).length := by rw [HML.out]; exact hlt
          have hs : (Rec.made ⟨l.next, l.epoch, p⟩)[j]? = some (Rec.made ⟨l.next, l.epoch, p⟩)[j] := List.getElem?_eq_getElem hjm
          have hdr : (Rec.made ⟨l.next, l.epoch, p⟩).drop j = (Rec.made ⟨l.next, l.epoch, p⟩)[j] :: (Rec.made ⟨l.next, l.epoch, p⟩).drop (j + 1) := List.drop_eq_getElem_cons hjm
          have h64 := HOK.out.len _ (List.getElem_mem hjm)
          have HRG : Hid (wr.rangeAt b6 (o6 + j * 64) (bv (Rec.made ⟨l.next, l.epoch, p⟩)[j])) := Lib.hid (fun q v hv =>
            (World.cell?_of_block (a := ⟨b6, o6 + j * 64 + q, none⟩) (R1.out.block b6 HS5.out.2.2.1 (by show ¬ _ = _; have := HB6.out; have := T11.out; have := HS5.out.2.2.2; omega))).trans (SL.out.range hs q v hv))
          rw [hdr] at R4 R5
          have HZ : Hid ((Try.prog.info? 77).map (·.size) = some (bv (Rec.made ⟨l.next, l.epoch, p⟩)[j]).length) := Lib.hid (by rw [secSize, bv_length, h64])
          have Z1 := Lib.hid (sec_toArray h64)
          have Z2 : Hid ((bv noSec).toArray.size = (bv (Rec.made ⟨l.next, l.epoch, p⟩)[j]).toArray.size) := Lib.hid (by simp [bv, h64, noSec])
          have Z3 := Lib.hid (sec_one (Rec.made ⟨l.next, l.epoch, p⟩)[j])
          have H64 := Lib.hid h64
          have Q2 := Lib.hid (heap_alloc_at wr (.cells (bv noSec).toArray 77))
          have Q3 := Lib.hid (setRow_at (bv (Rec.made ⟨l.next, l.epoch, p⟩)[j]).toArray Q2.out)
          have BW : Hid (Below wr.heap.size wr ((wr.alloc (.cells (bv noSec).toArray 77)).setRow wr.heap.size (bv (Rec.made ⟨l.next, l.epoch, p⟩)[j]).toArray)) := Lib.hid (below_setRow ((Below.refl _ _).alloc (Nat.le_refl _) _) (Nat.le_refl _) _)
          clear hs hdr h64
          generalize (Rec.made ⟨l.next, l.epoch, p⟩)[j] = s at *
          go_upto_region 12 with (first
            | refine wpList_load_mid rfl 77 (.tmp 66) rfl b6 (o6 + j * 64) rfl (bv s) _ HRG.out secUnder rfl HZ.out ?_
            | refine wpList_alloc_as rfl 77 rfl (bv noSec).toArray secZero ?_
            | refine wpList_store_block rfl 77 (.tmp 18) (.tmp 67) rfl wr.heap.size (bv s).toArray rfl rfl (bv noSec).toArray 77 Q2.out Z1.out Z2.out Z3.out ?_)
          obtain ⟨wA, hwA⟩ : ∃ x, (wr.alloc (.cells (bv noSec).toArray 77)).setRow wr.heap.size (bv s).toArray = x := ⟨_, rfl⟩
          rw [hwA] at Q3 BW ⊢
          clear hwA Q2
          have M4 := Lib.hid ((BW.out.block _ (block_lt R2.out)).trans R2.out)
          have M11 := Lib.hid ((BW.out.block _ (block_lt L11.out)).trans L11.out)
          have m4 := cell_of_block M11.out 4
          have BA : Hid (Below w.heap.size w wA) := Lib.hid (BR.out.trans (BW.out.mono BR.out.size))
          have KA : Hid (Keep (fun k => k = w.heap.size + 1) w5 wA) := Lib.hid (R1.out.trans (Keep.of_new (S := fun k => k = w.heap.size + 1) BW.out) (fun i _ h => h))
          have W2 : IntKind.i64.wrap (fst + pa + j) = fst + pa + j := by rw [IntKind.wrap_i64]; omega
          have PT := Lib.hid (refput_any (R3.out.below BW.out) (fst + pa + j) s H64.out (by have := HN.out; have := R7.out; omega))
          go_wp2_with (first
            | refine wpList_load_block rfl 59 (.tmp 4) rfl (w.heap.size + 1) rfl C 59 (0, 0) M4.out _ Try.underlying59 rfl UC.out ?_
            | refine wpList_load_block rfl 77 (.tmp 18) rfl wr.heap.size rfl (bv s).toArray 77 (0, 0) Q3.out _ secUnder rfl Z1.out ?_)
          refine PT.out.mono ?_
          rintro e w9 ⟨v9, rfl, hr9, hb9⟩
          obtain ⟨C9, rfl, hc1, hc2⟩ := hr9.form
          have U9 : Hid ((Try.prog.info? 59).map (·.size) = some C9.size) := Lib.hid (by rw [hc1]; exact info_rd)
          have V1 : Hid ((#[.slice none 0 0, .slice none 0 0, .bool false, .int .i64 0, .bool false] : Array Value).size = C9.size) := Lib.hid (by rw [hc1]; rfl)
          have V2 : Hid (C.size = C9.size) := Lib.hid (by rw [hc1, HC1'.out])
          have V3 := Lib.hid hc2
          have V4 := Lib.hid hc1
          have X9 := Lib.hid (heap_alloc_at w9 (.cells #[.slice none 0 0, .slice none 0 0, .bool false, .int .i64 0, .bool false] 59))
          have X10 := Lib.hid (setRow_at C9 X9.out)
          have BX : Hid (Below w9.heap.size w9 ((w9.alloc (.cells #[.slice none 0 0, .slice none 0 0, .bool false, .int .i64 0, .bool false] 59)).setRow w9.heap.size C9)) := Lib.hid (below_setRow ((Below.refl _ _).alloc (Nat.le_refl _) _) (Nat.le_refl _) _)
          have BAX : Hid (Below wA.heap.size wA ((w9.alloc (.cells #[.slice none 0 0, .slice none 0 0, .bool false, .int .i64 0, .bool false] 59)).setRow w9.heap.size C9)) := Lib.hid (hb9.trans (BX.out.mono hb9.size))
          have R9 := Lib.hid ((hr9.below BX.out).mono (fun k _ hk => (hk.elim id (fun h => .inr (Nat.le_trans BA.out.size h)) : (G k ∨ w.heap.size ≤ k))))
          clear hr9 hb9 hc1 hc2 PT m4
          go_upto_region 13 with (first
            | refine wpList_store_block rfl 59 (.tmp 19) (.tmp 78) rfl w9.heap.size C9 rfl rfl #[.slice none 0 0, .slice none 0 0, .bool false, .int .i64 0, .bool false] 59 X9.out U9.out V1.out V3.out ?_)
          obtain ⟨wB, hwB⟩ : ∃ x, (w9.alloc (.cells #[.slice none 0 0, .slice none 0 0, .bool false, .int .i64 0, .bool false] 59)).setRow w9.heap.size C9 = x := ⟨_, rfl⟩
          rw [hwB] at X10 BX BAX R9 ⊢
          clear hwB X9 BX
          have P4 := Lib.hid ((BAX.out.block _ (block_lt M4.out)).trans M4.out)
          have KB : Hid (Keep (fun k => k = w.heap.size + 1) w5 (wB.setRow (w.heap.size + 1) C9)) := Lib.hid (Keep.setRow (KA.out.trans (Keep.of_new (S := fun k => k = w.heap.size + 1) BAX.out) (fun i _ h => h)) rfl C9)
          have BB : Hid (Below w.heap.size w (wB.setRow (w.heap.size + 1) C9)) := Lib.hid (below_setRow (BA.out.trans (BAX.out.mono BA.out.size)) (by omega) C9)
          have P5 := Lib.hid (setRow_at C9 P4.out)
          have RB : Hid (IsRef (wB.setRow (w.heap.size + 1) C9) (.agg C9) (dj.put (fst + pa + j) s) (fun k => G k ∨ w.heap.size ≤ k)) := Lib.hid (R9.out.boxed P4.out (by decide) (by decide) (fun k hk hne => setRow_other _ _ _ _ hne))
          have ST7 : Hid ((dj.put (fst + pa + j) s).st = d.st) := Lib.hid ((put_st _ _ _).trans R6.out)
          have PD7 := Lib.hid (put_pd dj (fst + pa + j) s)
          go_upto_region 14 with (first
            | refine wpList_load_block rfl 59 (.tmp 19) rfl w9.heap.size rfl C9 59 (0, 0) X10.out _ Try.underlying59 rfl U9.out ?_
            | refine wpList_store_block rfl 59 (.tmp 4) (.tmp 80) rfl (w.heap.size + 1) C9 rfl rfl C 59 P4.out U9.out V2.out V3.out ?_)
          generalize wB.setRow (w.heap.size + 1) C9 = wC at *
          by_cases he : dj.putE (fst + pa + j) = 0
          · rw [putAll, if_pos he] at R4
            rw [putAllE, if_pos he] at R5
            rw [he]
            clear he
            go_wp2_with fail
            go_roundg (gk - 1)
            case measure => omega
            case rel =>
              refine ⟨j + 1, by omega, by go_num, dj.put (fst + pa + j) s, C9, KB.out, P5.out, RB.out, ?_, ?_, ST7.out, by have := PD7.out; have := R7.out; omega⟩
              · rw [R4.out]; congr 1; omega
              · rw [R5.out]; congr 1; omega
          · rw [putAll, if_neg he] at R4
            rw [putAllE, if_neg he] at R5
            have heb : (dj.putE (fst + pa + j) != 0) = true := bne_iff_ne.2 he
            have HE3 : Hid (l.appE d p = dj.putE (fst + pa + j) ∧ l.appD d p = dj.put (fst + pa + j) s) := Lib.hid ⟨HE.out.1.trans R5.out, HE.out.2.trans R4.out⟩
            have HE2 : Hid (l.appL d p = l ∧ l.appN d p = 0) := Lib.hid ⟨if_neg (by rw [HE3.out.1]; exact he), if_neg (by rw [HE3.out.1]; exact he)⟩
            have G3 : Hid (wC.heap[w.heap.size]? = _) := Lib.hid ((KB.out.block _ (block_lt J3.out) (by show ¬ _ = _; omega)).trans J3.out)
            have G6 : Hid (wC.heap[w.heap.size + 1 + 1]? = _) := Lib.hid ((KB.out.block _ (block_lt J6.out) (by show ¬ _ = _; omega)).trans J6.out)
            have G7 : Hid (wC.heap[w.heap.size + 1 + 1 + 1]? = _) := Lib.hid ((KB.out.block _ (block_lt J7.out) (by show ¬ _ = _; omega)).trans J7.out)
            obtain ⟨er, her⟩ : ∃ x, dj.putE (fst + pa + j) = x := ⟨_, rfl⟩
            rw [her] at heb HE3 ⊢
            clear he her
            go_upto_region 15 with fail
            apply wp_region_words2 (fun _ _ => True) (RetI wC (w.heap.size + 1 + 1) (w.heap.size + 1 + 1 + 1) 3 4 #[.int .u32 0, .int .u64 0, .int .i64 0, .int .i64 0, .int .i64 0] #[.slice none 0 0, .slice none 0 0, .bool false, .int .i64 0, .bool false] #[.int .u32 l.epoch, .int .u64 l.next, .int .i64 l.start, .int .i64 l.seg, .int .i64 l.taken] C9 62 59)
              [isVal (.agg #[.int .u32 l.epoch, .int .u64 l.next, .int .i64 l.start, .int .i64 l.seg, .int .i64 l.taken]), isVal (.agg C9), isVal _, fun _ _ => True, fun _ _ => True, isVal _, isVal _]
              [[], [], [], [0], [1], [], [2]] [0, 1, 2, 3, 4, 5, 6] (by kernel_rfl) (by kernel_rfl) ?hFc ?standc ?hIc ?stepsc ?finc
            case hFc => intro v; simp [fillFrom, Act.put]; rfl
            case standc =>
              repeat' (first | exact trivial | (refine And.intro ?_ ?_))
              all_goals first | exact (fun _ _ _ _ _ _ => trivial) | (intro u w w' h _ _; exact h)
            case hIc => exact RetI.start G6.out G7.out
            case stepsc =>
              refine And.intro ?_ ?_
              · intro d v w' hdk hI hdn hd K hK
                simp only [allOf, word, List.getD_cons_zero, List.getD_cons_succ, isVal, and_true, true_and] at hd
                have HK := Lib.hid hK
                clear hK
                rw [if_pos (by rfl)]
                have hgw := (hI.blk (block_lt G3.out) (by omega) (by omega)).trans G3.out
                refine wp_load_block 62 (.tmp 3) rfl (w.heap.size) rfl #[.int .u32 l.epoch, .int .u64 l.next, .int .i64 l.start, .int .i64 l.seg, .int .i64 l.taken] 62 (0, 0) hgw _ Try.underlying62 rfl (by kernel_rfl) ?_
                exact HK.out _ _ rfl (hI.pass (by decide) (by decide)) trivial
              refine And.intro ?_ ?_
              · intro d v w' hdk hI hdn hd K hK
                simp only [allOf, word, List.getD_cons_zero, List.getD_cons_succ, isVal, and_true, true_and] at hd
                have HK := Lib.hid hK
                clear hK
                rw [if_pos (by rfl)]
                have hgw := (hI.blk (block_lt P5.out) (by omega) (by omega)).trans P5.out
                refine wp_load_block 59 (.tmp 4) rfl (w.heap.size + 1) rfl C9 59 (0, 0) hgw _ Try.underlying59 rfl U9.out ?_
                exact HK.out _ _ rfl (hI.pass (by decide) (by decide)) trivial
              refine And.intro ?_ ?_
              · intro d v w' hdk hI hdn hd K hK
                simp only [allOf, word, List.getD_cons_zero, List.getD_cons_succ, isVal, and_true, true_and] at hd
                have HK := Lib.hid hK
                clear hK
                go_simp
                exact HK.out _ _ rfl (hI.pass (by decide) (by decide)) (trivial)
              refine And.intro ?_ ?_
              · intro d v w' hdk hI hdn hd K hK
                simp only [allOf, word, List.getD_cons_zero, List.getD_cons_succ, isVal, and_true, true_and] at hd
                have HK := Lib.hid hK
                clear hK
                rw [if_pos (by rfl)]
                refine wp_store_block 62 (.tmp 6) (.tmp 83) rfl (w.heap.size + 1 + 1) #[.int .u32 l.epoch, .int .u64 l.next, .int .i64 l.start, .int .i64 l.seg, .int .i64 l.taken] rfl hd _ _ (hI.old6 hdk) (by kernel_rfl) rfl (by simp [Value.oneCell']) ?_
                exact HK.out _ _ trivial (hI.did1 hdk (by omega) (by decide)) trivial
              refine And.intro ?_ ?_
              · intro d v w' hdk hI hdn hd K hK
                simp only [allOf, word, List.getD_cons_zero, List.getD_cons_succ, isVal, and_true, true_and] at hd
                have HK := Lib.hid hK
                clear hK
                rw [if_pos (by rfl)]
                refine wp_store_block 59 (.tmp 7) (.tmp 84) rfl (w.heap.size + 1 + 1 + 1) C9 rfl hd _ _ (hI.old7 hdk) U9.out (by rw [V4.out]; rfl) V3.out ?_
                exact HK.out _ _ trivial (hI.did2 hdk (by omega) (by decide)) trivial
              refine And.intro ?_ ?_
              · intro d v w' hdk hI hdn hd K hK
                simp only [allOf, word, List.getD_cons_zero, List.getD_cons_succ, isVal, and_true, true_and] at hd
                have HK := Lib.hid hK
                clear hK
                go_simp
                exact HK.out _ _ rfl (hI.pass (by decide) (by decide)) (trivial)
              refine And.intro ?_ ?_
              · intro d v w' hdk hI hdn hd K hK
                simp only [allOf, word, List.getD_cons_zero, List.getD_cons_succ, isVal, and_true, true_and] at hd
                try simp only [hd] at hK
                have HK := Lib.hid hK
                clear hK
                go_simp
                exact HK.out _ _ rfl (hI.pass (by decide) (by decide)) (trivial)
              exact trivial
            intro v w6 dn hall hI hd
            simp only [allOf, word, List.getD_cons_zero, List.getD_cons_succ, isVal, and_true, true_and] at hd
            obtain ⟨h0, h1, h2, h5, h6⟩ := hd
            simp only [h0, h1, h2, h5, h6]
            clear h0 h1 h2 h5 h6
            obtain ⟨f1, f2, f3⟩ := hI.fin (hall 3 (by decide)) (hall 4 (by decide))
            clear hI hall
            have UU := U9.out
            go_wp2_with fail
            exact bodyPost_ret (v := .tuple #[.agg #[.int .u32 l.epoch, .int .u64 l.next, .int .i64 l.start, .int .i64 l.seg, .int .i64 l.taken], .agg C9, .int .u64 (0), .int .i64 (er)]) (res_cell2_tmp2 Try.results24 _ _ (w.heap.size + 1 + 1) (w.heap.size + 1 + 1 + 1) 62 59 _ _ (0, 0) (0, 0) _ _ _ _ rfl rfl rfl rfl f2 f3 Try.underlying62 rfl rlInfo Try.underlying59 rfl UU) rfl
              (FIN.out wC w6 _ _ _ 0 er BB.out f1 RB.out G6.out G7.out HE3.out.2 (by rw [HE2.out.1]; rfl) HE2.out.2 HE3.out.1)
        · obtain rfl : j = m := by omega
          have HE3 : Hid (l.appE d p = 0 ∧ l.appD d p = dj) := Lib.hid (by
            have hdrop : (Rec.made ⟨l.next, l.epoch, p⟩).drop j = [] := List.drop_eq_nil_of_le (by rw [HML.out]; omega)
            rw [hdrop] at R4 R5
            exact ⟨HE.out.1.trans R5.out, HE.out.2.trans R4.out⟩)
          have HE2 : Hid (l.appN d p = l.next) := Lib.hid (if_pos HE3.out.1)
          have HPS2 := Lib.hid (HPS.out HE3.out.1)
          have k1 := cell_of_block L11.out 1
          have k4 := cell_of_block L11.out 4
          have g1 := free_of_block L11.out 1
          have g4 := free_of_block L11.out 4
          have W3 : IntKind.i64.wrap (pa + j) = pa + j := by rw [IntKind.wrap_i64]; omega
          have O11 := Lib.hid (hset_at _ _ 1 (.int .u64 (IntKind.u64.wrap (l.next + 1))) (hset_at _ _ 4 (.int .i64 (pa + j)) L11.out))
          have KE : Hid (Keep (fun k => k = w3.heap.size) wr ((wr.setCell ⟨w3.heap.size, 4, none⟩ (.int .i64 (pa + j))).setCell ⟨w3.heap.size, 1, none⟩ (.int .u64 (IntKind.u64.wrap (l.next + 1))))) := Lib.hid (((Keep.refl (fun k => k = w3.heap.size) wr).setCell ⟨w3.heap.size, 4, none⟩ _ (fun _ => rfl)).setCell ⟨w3.heap.size, 1, none⟩ _ (fun _ => rfl))
          have BE : Hid (Below w.heap.size w ((wr.setCell ⟨w3.heap.size, 4, none⟩ (.int .i64 (pa + j))).setCell ⟨w3.heap.size, 1, none⟩ (.int .u64 (IntKind.u64.wrap (l.next + 1))))) := Lib.hid ((BR.out.setCell (p := ⟨w3.heap.size, 4, none⟩) (by show w.heap.size ≤ w3.heap.size; have := HS5.out.2.2.2; omega) _).setCell (p := ⟨w3.heap.size, 1, none⟩) (by show w.heap.size ≤ w3.heap.size; have := HS5.out.2.2.2; omega) _)
          go_upto_region 20 with fail
          generalize (wr.setCell ⟨w3.heap.size, 4, none⟩ (.int .i64 (pa + j))).setCell ⟨w3.heap.size, 1, none⟩ (.int .u64 (IntKind.u64.wrap (l.next + 1))) = wE at *
          simp only [List.setIfInBounds_toArray, List.set_cons_zero, List.set_cons_succ] at O11
          have G4 : Hid (wE.heap[w.heap.size + 1]? = _) := Lib.hid ((KE.out.block _ (block_lt R2.out) (by show ¬ _ = _; have := HS5.out.2.2.2; omega)).trans R2.out)
          have G6 : Hid (wE.heap[w.heap.size + 1 + 1]? = _) := Lib.hid ((KE.out.block _ (block_lt L6.out) (by show ¬ _ = _; have := HS5.out.2.2.2; omega)).trans L6.out)
          have G7 : Hid (wE.heap[w.heap.size + 1 + 1 + 1]? = _) := Lib.hid ((KE.out.block _ (block_lt L7.out) (by show ¬ _ = _; have := HS5.out.2.2.2; omega)).trans L7.out)
          have RE : Hid (IsRef wE (.agg C) dj (fun k => G k ∨ w.heap.size ≤ k)) := Lib.hid (R3.out.boxed L11.out (by decide) (by decide) (fun k hk hne => KE.out.block k hk hne))
          have SZ6 := Lib.hid HS5.out.2.2.2
          apply wp_region_words2 (fun _ _ => True) (RetI wE (w.heap.size + 1 + 1) (w.heap.size + 1 + 1 + 1) 3 4 #[.int .u32 0, .int .u64 0, .int .i64 0, .int .i64 0, .int .i64 0] #[.slice none 0 0, .slice none 0 0, .bool false, .int .i64 0, .bool false] #[.int .u32 l.epoch, .int .u64 (IntKind.u64.wrap (l.next + 1)), .int .i64 l.start, .int .i64 sgv, .int .i64 (pa + j)] C 62 59)
            [isVal (.agg #[.int .u32 l.epoch, .int .u64 (IntKind.u64.wrap (l.next + 1)), .int .i64 l.start, .int .i64 sgv, .int .i64 (pa + j)]), isVal (.agg C), isVal _, fun _ _ => True, fun _ _ => True, isVal _, isVal _]
            [[], [], [], [0], [1], [2], []] [0, 1, 2, 3, 4, 5, 6] (by kernel_rfl) (by kernel_rfl) ?hFe ?stande ?hIe ?stepse ?fine
          case hFe => intro v; simp [fillFrom, Act.put]; rfl
          case stande =>
            repeat' (first | exact trivial | (refine And.intro ?_ ?_))
            all_goals first | exact (fun _ _ _ _ _ _ => trivial) | (intro u w w' h _ _; exact h)
          case hIe => exact RetI.start G6.out G7.out
          case stepse =>
            refine And.intro ?_ ?_
            · intro d v w' hdk hI hdn hd K hK
              simp only [allOf, word, List.getD_cons_zero, List.getD_cons_succ, isVal, and_true, true_and] at hd
              have HK := Lib.hid hK
              clear hK
              rw [if_pos (by rfl)]
              have hgw := (hI.blk (block_lt O11.out) (by have := SZ6.out; omega) (by have := SZ6.out; omega)).trans O11.out
              refine wp_load_block 62 (.tmp 11) rfl (w3.heap.size) rfl #[.int .u32 l.epoch, .int .u64 (IntKind.u64.wrap (l.next + 1)), .int .i64 l.start, .int .i64 sgv, .int .i64 (pa + j)] 62 (0, 0) hgw _ Try.underlying62 rfl (by kernel_rfl) ?_
              exact HK.out _ _ rfl (hI.pass (by decide) (by decide)) trivial
            refine And.intro ?_ ?_
            · intro d v w' hdk hI hdn hd K hK
              simp only [allOf, word, List.getD_cons_zero, List.getD_cons_succ, isVal, and_true, true_and] at hd
              have HK := Lib.hid hK
              clear hK
              rw [if_pos (by rfl)]
              have hgw := (hI.blk (block_lt G4.out) (by omega) (by omega)).trans G4.out
              refine wp_load_block 59 (.tmp 4) rfl (w.heap.size + 1) rfl C 59 (0, 0) hgw _ Try.underlying59 rfl UC.out ?_
              exact HK.out _ _ rfl (hI.pass (by decide) (by decide)) trivial
            refine And.intro ?_ ?_
            · intro d v w' hdk hI hdn hd K hK
              simp only [allOf, word, List.getD_cons_zero, List.getD_cons_succ, isVal, and_true, true_and] at hd
              have HK := Lib.hid hK
              clear hK
              go_simp
              exact HK.out _ _ rfl (hI.pass (by decide) (by decide)) (trivial)
            refine And.intro ?_ ?_
            · intro d v w' hdk hI hdn hd K hK
              simp only [allOf, word, List.getD_cons_zero, List.getD_cons_succ, isVal, and_true, true_and] at hd
              have HK := Lib.hid hK
              clear hK
              rw [if_pos (by rfl)]
              refine wp_store_block 62 (.tmp 6) (.tmp 98) rfl (w.heap.size + 1 + 1) #[.int .u32 l.epoch, .int .u64 (IntKind.u64.wrap (l.next + 1)), .int .i64 l.start, .int .i64 sgv, .int .i64 (pa + j)] rfl hd _ _ (hI.old6 hdk) (by kernel_rfl) rfl (by simp [Value.oneCell']) ?_
              exact HK.out _ _ trivial (hI.did1 hdk (by omega) (by decide)) trivial
            refine And.intro ?_ ?_
            · intro d v w' hdk hI hdn hd K hK
              simp only [allOf, word, List.getD_cons_zero, List.getD_cons_succ, isVal, and_true, true_and] at hd
              have HK := Lib.hid hK
              clear hK
              rw [if_pos (by rfl)]
              refine wp_store_block 59 (.tmp 7) (.tmp 99) rfl (w.heap.size + 1 + 1 + 1) C rfl hd _ _ (hI.old7 hdk) UC.out (by rw [HC1'.out]; rfl) HC2'.out ?_
              exact HK.out _ _ trivial (hI.did2 hdk (by omega) (by decide)) trivial
            refine And.intro ?_ ?_
            · intro d v w' hdk hI hdn hd K hK
              simp only [allOf, word, List.getD_cons_zero, List.getD_cons_succ, isVal, and_true, true_and] at hd
              try simp only [hd] at hK
              have HK := Lib.hid hK
              clear hK
              go_simp
              exact HK.out _ _ rfl (hI.pass (by decide) (by decide)) (trivial)
            refine And.intro ?_ ?_
            · intro d v w' hdk hI hdn hd K hK
              simp only [allOf, word, List.getD_cons_zero, List.getD_cons_succ, isVal, and_true, true_and] at hd
              have HK := Lib.hid hK
              clear hK
              go_simp
              exact HK.out _ _ rfl (hI.pass (by decide) (by decide)) (trivial)
            exact trivial
          intro v w6 dn hall hI hd
          simp only [allOf, word, List.getD_cons_zero, List.getD_cons_succ, isVal, and_true, true_and] at hd
          obtain ⟨h0, h1, h2, h5, h6⟩ := hd
          simp only [h0, h1, h2, h5, h6]
          clear h0 h1 h2 h5 h6
          obtain ⟨f1, f2, f3⟩ := hI.fin (hall 3 (by decide)) (hall 4 (by decide))
          clear hI hall
          have UU := UC.out
          go_wp2_with fail
          exact bodyPost_ret (v := .tuple #[.agg #[.int .u32 l.epoch, .int .u64 (IntKind.u64.wrap (l.next + 1)), .int .i64 l.start, .int .i64 sgv, .int .i64 (pa + j)], .agg C, .int .u64 (l.next), .int .i64 (0)]) (res_cell2_tmp2 Try.results24 _ _ (w.heap.size + 1 + 1) (w.heap.size + 1 + 1 + 1) 62 59 _ _ (0, 0) (0, 0) _ _ _ _ rfl rfl rfl rfl f2 f3 Try.underlying62 rfl rlInfo Try.underlying59 rfl UU) rfl
            (FIN.out wE w6 _ _ _ l.next 0 BE.out f1 RE.out G6.out G7.out HE3.out.2 (by rw [HPS2.out]; rfl) HE2.out HE3.out.1)
    · rw [if_neg hok, if_neg hok] at HE
      rw [show l.placeOk d.st.length m = false by simpa using hok]
      clear hok HL'
      have HE2 : Hid (l.appL d p = l ∧ l.appN d p = 0) := Lib.hid ⟨if_neg (by rw [HE.out.1]; decide), if_neg (by rw [HE.out.1]; decide)⟩
      go_upto_region 6 with fail
      generalize w3.alloc (.cells #[.int .u32 l'.epoch, .int .u64 l'.next, .int .i64 l'.start, .int .i64 l'.seg, .int .i64 l'.taken] 62) = w4 at *
      have B24 : Hid (Below w2.heap.size w2 w4) := Lib.hid (B23.out.trans (B4.out.mono B23.out.size))
      have N3 := Lib.hid ((B24.out.block _ (block_lt K3.out)).trans K3.out)
      have N4 := Lib.hid ((B24.out.block _ (block_lt K4.out)).trans K4.out)
      have N6 := Lib.hid ((B24.out.block _ (block_lt K6.out)).trans K6.out)
      have N7 := Lib.hid ((B24.out.block _ (block_lt K7.out)).trans K7.out)
      have B04 : Hid (Below w.heap.size w w4) := Lib.hid (B1.out.trans (B24.out.mono B1.out.size))
      apply wp_region_words2 (fun _ _ => True) (RetI w4 (w.heap.size + 1 + 1) (w.heap.size + 1 + 1 + 1) 2 3 #[.int .u32 0, .int .u64 0, .int .i64 0, .int .i64 0, .int .i64 0] #[.slice none 0 0, .slice none 0 0, .bool false, .int .i64 0, .bool false] #[.int .u32 l.epoch, .int .u64 l.next, .int .i64 l.start, .int .i64 l.seg, .int .i64 l.taken] C0 62 59)
        [isVal (.agg #[.int .u32 l.epoch, .int .u64 l.next, .int .i64 l.start, .int .i64 l.seg, .int .i64 l.taken]), isVal (.agg C0), fun _ _ => True, fun _ _ => True, isVal _, isVal _]
        [[], [], [0], [1], [], []] [0, 1, 2, 3, 4, 5] (by kernel_rfl) (by kernel_rfl) ?hFb ?standb ?hIb ?stepsb ?finb
      case hFb => intro v; simp [fillFrom, Act.put]; rfl
      case standb =>
        repeat' (first | exact trivial | (refine And.intro ?_ ?_))
        all_goals first | exact (fun _ _ _ _ _ _ => trivial) | (intro u w w' h _ _; exact h)
      case hIb => exact RetI.start N6.out N7.out
      case stepsb =>
        refine And.intro ?_ ?_
        · intro d v w' hdk hI hdn hd K hK
          simp only [allOf, word, List.getD_cons_zero, List.getD_cons_succ, isVal, and_true, true_and] at hd
          have HK := Lib.hid hK
          clear hK
          rw [if_pos (by rfl)]
          have hgw := (hI.blk (block_lt N3.out) (by omega) (by omega)).trans N3.out
          refine wp_load_block 62 (.tmp 3) rfl (w.heap.size) rfl #[.int .u32 l.epoch, .int .u64 l.next, .int .i64 l.start, .int .i64 l.seg, .int .i64 l.taken] 62 (0, 0) hgw _ Try.underlying62 rfl (by kernel_rfl) ?_
          exact HK.out _ _ rfl (hI.pass (by decide) (by decide)) trivial
        refine And.intro ?_ ?_
        · intro d v w' hdk hI hdn hd K hK
          simp only [allOf, word, List.getD_cons_zero, List.getD_cons_succ, isVal, and_true, true_and] at hd
          have HK := Lib.hid hK
          clear hK
          rw [if_pos (by rfl)]
          have hgw := (hI.blk (block_lt N4.out) (by omega) (by omega)).trans N4.out
          refine wp_load_block 59 (.tmp 4) rfl (w.heap.size + 1) rfl C0 59 (0, 0) hgw _ Try.underlying59 rfl U0.out ?_
          exact HK.out _ _ rfl (hI.pass (by decide) (by decide)) trivial
        refine And.intro ?_ ?_
        · intro d v w' hdk hI hdn hd K hK
          simp only [allOf, word, List.getD_cons_zero, List.getD_cons_succ, isVal, and_true, true_and] at hd
          have HK := Lib.hid hK
          clear hK
          rw [if_pos (by rfl)]
          refine wp_store_block 62 (.tmp 6) (.tmp 40) rfl (w.heap.size + 1 + 1) #[.int .u32 l.epoch, .int .u64 l.next, .int .i64 l.start, .int .i64 l.seg, .int .i64 l.taken] rfl hd _ _ (hI.old6 hdk) (by kernel_rfl) rfl (by simp [Value.oneCell']) ?_
          exact HK.out _ _ trivial (hI.did1 hdk (by omega) (by decide)) trivial
        refine And.intro ?_ ?_
        · intro d v w' hdk hI hdn hd K hK
          simp only [allOf, word, List.getD_cons_zero, List.getD_cons_succ, isVal, and_true, true_and] at hd
          have HK := Lib.hid hK
          clear hK
          rw [if_pos (by rfl)]
          refine wp_store_block 59 (.tmp 7) (.tmp 41) rfl (w.heap.size + 1 + 1 + 1) C0 rfl hd _ _ (hI.old7 hdk) U0.out (by rw [HC1.out]; rfl) HC2.out ?_
          exact HK.out _ _ trivial (hI.did2 hdk (by omega) (by decide)) trivial
        refine And.intro ?_ ?_
        · intro d v w' hdk hI hdn hd K hK
          simp only [allOf, word, List.getD_cons_zero, List.getD_cons_succ, isVal, and_true, true_and] at hd
          have HK := Lib.hid hK
          clear hK
          go_simp
          exact HK.out _ _ rfl (hI.pass (by decide) (by decide)) (trivial)
        refine And.intro ?_ ?_
        · intro d v w' hdk hI hdn hd K hK
          simp only [allOf, word, List.getD_cons_zero, List.getD_cons_succ, isVal, and_true, true_and] at hd
          have HK := Lib.hid hK
          clear hK
          go_simp
          exact HK.out _ _ rfl (hI.pass (by decide) (by decide)) (trivial)
        exact trivial
      intro v w6 dn hall hI hd
      simp only [allOf, word, List.getD_cons_zero, List.getD_cons_succ, isVal, and_true, true_and] at hd
      obtain ⟨h0, h1, h4, h5⟩ := hd
      simp only [h0, h1, h4, h5]
      clear h0 h1 h4 h5
      obtain ⟨f1, f2, f3⟩ := hI.fin (hall 2 (by decide)) (hall 3 (by decide))
      clear hI hall
      have UU := U0.out
      go_wp2_with fail
      exact bodyPost_ret (v := .tuple #[.agg #[.int .u32 l.epoch, .int .u64 l.next, .int .i64 l.start, .int .i64 l.seg, .int .i64 l.taken], .agg C0, .int .u64 (0), .int .i64 (101)]) (res_cell2_tmp2 Try.results24 _ _ (w.heap.size + 1 + 1) (w.heap.size + 1 + 1 + 1) 62 59 _ _ (0, 0) (0, 0) _ _ _ _ rfl rfl rfl rfl f2 f3 Try.underlying62 rfl rlInfo Try.underlying59 rfl UU) rfl
        (FIN.out w4 w6 _ _ d 0 101 B04.out f1 ((HR.out.below B04.out).mono fun k _ hk => .inl hk) N6.out N7.out HE.out.2 (by rw [HE2.out.1]; rfl) HE2.out.2 HE.out.1)
end Go.Proofs.Ytogkibikghbghaa.Wal

namespace Go.Proofs.Ytogkibikghbghaa.Wal
open Go.RowKit Go.Proofs.Ytogkibikghbghaa.Fg Go.Proofs.Ytogkibikghbghaa.Frame Go.Proofs.Ytogkibikghbghaa.Disk Go.Proofs.Ytogkibikghbghaa.Area

theorem three_allocs (w : World) (o1 o2 o3 : Obj) :
    let w1 := ((w.alloc o1).alloc o2).alloc o3
    Below w.heap.size w w1 ∧ w1.heap[w.heap.size]? = some o1 ∧ w1.heap[w.heap.size + 1]? = some o2 ∧ w1.heap[w.heap.size + 1 + 1]? = some o3 ∧ w1.heap.size = w.heap.size + 3 := by
  have s1 : (w.alloc o1).heap.size = w.heap.size + 1 := by simp
  have s2 : ((w.alloc o1).alloc o2).heap.size = w.heap.size + 1 + 1 := by simp
  refine ⟨(((Below.refl _ _).alloc (Nat.le_refl _) _).alloc (by simp) _).alloc (by simp; omega) _, ?_, ?_, ?_, by simp⟩
  · rw [heap_alloc_old _ _ (by rw [s2]; omega), heap_alloc_old _ _ (by rw [s1]; omega)]; exact heap_alloc_at _ _
  · rw [heap_alloc_old _ _ (by rw [s2]; omega), ← s1]; exact heap_alloc_at _ _
  · rw [← s2]; exact heap_alloc_at _ _
theorem below_set3' {W w : World} {b : Nat} (hb : W.heap.size ≤ b) {y0 y1 y2 : Value} (h : Below W.heap.size W w) : Below W.heap.size W (((w.setCell ⟨b, 0, none⟩ y0).setCell ⟨b, 1, none⟩ y1).setCell ⟨b, 2, none⟩ y2) :=
  ((h.setCell (p := ⟨b, 0, none⟩) hb _).setCell (p := ⟨b, 1, none⟩) hb _).setCell (p := ⟨b, 2, none⟩) hb _

set_option maxRecDepth 100000 in
set_option maxHeartbeats 4000000 in
theorem refat_any {w : World} {v : Value} {d : Dk} {G : Nat → Prop} (h : IsRef w v d G) (hby : Byt d) (l : Lg) (seg at_ : Int) (hseg : okB d.st.length seg = true) (ha0 : 0 ≤ at_) (ha1 : at_ ≤ 16) :
    Calls Try.prog 53 #[.agg (rl l), v, .int .i64 seg, .int .i64 at_] w (LopenE w l d seg at_) := by
  have H := Lib.hid h
  have SG := Lib.hid (fun w' => Ref09.seg_any (d.st.length : Int) seg w')
  have e1 : segE d.st.length seg = 0 := if_pos hseg
  rw [e1] at SG
  obtain ⟨A0, c00, A2, c2, lr, rfl, hrv, hG⟩ := h
  have hsv : segV d.st.length seg = 32 + seg * 16 := if_pos hseg
  have hsr := okB_in hseg
  have hfew := hrv.few.1
  have hok := Lib.hid hrv.ok
  have HBY := Lib.hid hby
  obtain ⟨C0, hC0⟩ : ∃ C, rcells A0 c00 A2 c2 lr d = C := ⟨_, rfl⟩
  have hst0 : C0[0]? = some (.slice A0 d.st.length c00) := by rw [← hC0]; rfl
  have ST0 := Lib.hid hst0
  have U0 : Hid ((Try.prog.info? 59).map (·.size) = some C0.size) := Lib.hid (by rw [← hC0]; exact info_rd)
  rw [hC0] at H ⊢
  obtain ⟨fst, hfst⟩ : ∃ x, segV d.st.length seg = x := ⟨_, rfl⟩
  have hfr : 0 ≤ fst ∧ fst ≤ 512 := by rw [← hfst, hsv]; omega
  obtain ⟨hfr0, hfr1⟩ := hfr
  have HF := Lib.hid hfst
  obtain ⟨m, hm⟩ : ∃ m, (16 - at_).toNat = m := ⟨_, rfl⟩
  have hma : at_ + m = 16 := by omega
  obtain ⟨rows, hrows⟩ : ∃ r, readSecs d seg at_ = r := ⟨_, rfl⟩
  have HR := Lib.hid hrows
  have HRL : Hid (rows.length = m) := Lib.hid (by rw [← hrows, readSecs_length, hm])
  have HRS : Hid (Secs rows) := Lib.hid (by rw [← hrows]; exact readSecs_ok hok.out HBY.out seg at_)
  have HRG : Hid (∀ j : Nat, j < m → rows[j]? = some (d.read (fst + (at_ + j)))) := Lib.hid (by
    intro j hj
    rw [← hrows, readSecs, hfst, List.getElem?_map, List.getElem?_range (by omega)]
    rfl)
  clear hrv hG hby hsv hsr hrows hm hseg e1 hst0 hC0
  have FA := Lib.hid (three_allocs w (.cells (rl l) 62) (.cells C0 59) (.cells #[.int .u64 0, .int .u32 0, .slice none 0 0] 40))
  unfold rl at FA ⊢
  go_enter Try.func53, Try.ntmps53
  go_upto_region 1 with fail
  generalize ((w.alloc (.cells #[.int .u32 l.epoch, .int .u64 l.next, .int .i64 l.start, .int .i64 l.seg, .int .i64 l.taken] 62)).alloc (.cells C0 59)).alloc (.cells #[.int .u64 0, .int .u32 0, .slice none 0 0] 40) = w1 at *
  have B1 := Lib.hid FA.out.1
  have LK := Lib.hid FA.out.2.1
  have DK := Lib.hid FA.out.2.2.1
  have RB1 := Lib.hid FA.out.2.2.2.1
  have HZ1 := Lib.hid FA.out.2.2.2.2
  clear FA
  have L1 := Lib.hid (H.out.below B1.out)
  have c0 : w1.cell? ⟨w.heap.size + 1, 0, none⟩ = some (.slice A0 d.st.length c00) := (cell_of_block DK.out 0).trans ST0.out
  go_wp2_with fail
  refine (SG.out w1).mono ?_
  rintro e wq ⟨rfl, rfl⟩
  rw [hfst]
  clear hfst c0
  go_wp2_with fail
  go_loopg [12, 13] m (fun k v i wr => ∃ j : Nat, j + k = m ∧ i = .int .i64 (at_ + j) ∧ ReadRel w1 rows j v wr)
  case atStart => exact ⟨0, Nat.zero_add _, by go_num, World.ownsRow_made w1 #[] 0 (Nat.le_refl _) (Nat.zero_le _) rfl, (Below.refl _ _).alloc (Nat.le_refl _) _⟩
  case round =>
    obtain ⟨j, hj, rfl, ho, hb⟩ := hrel
    obtain ⟨A1, c1, rfl, -⟩ := own_form ho
    have HO := Lib.hid ho
    have HB := Lib.hid hb
    have LR := Lib.hid (L1.out.below hb)
    clear ho hb
    by_cases hlt : j < m
    · have DR := Lib.hid ((HB.out.block _ (block_lt DK.out)).trans DK.out)
      have HX := Lib.hid (HRG.out j hlt)
      have hjI : at_ + (j : Int) < 16 := by omega
      have W1 : IntKind.i64.wrap (fst + (at_ + j)) = fst + (at_ + j) := by rw [IntKind.wrap_i64]; omega
      have RDC := Lib.hid (refread_any LR.out (fst + (at_ + j)))
      obtain ⟨s, hs⟩ : ∃ s, d.read (fst + (at_ + j)) = s := ⟨_, rfl⟩
      have h64 : s.length = 64 := by rw [← hs]; exact Dk.read_64 hok.out _
      rw [hs] at RDC HX
      have HT : Hid ((sv (rows.take (j + 1))).flatten = (sv (rows.take j)).flatten ++ bv s) := Lib.hid (by rw [List.take_add_one, HX.out]; simp [sv])
      clear hs
      go_wp2_with (refine wpList_load_block rfl 59 (.tmp 5) rfl (w.heap.size + 1) rfl C0 59 (0, 0) DR.out _ Try.underlying59 rfl U0.out ?_)
      refine RDC.out.mono ?_
      rintro e w5 ⟨rfl, hb5⟩
      have B5 : Hid (Below w1.heap.size w1 w5) := Lib.hid (HB.out.trans (hb5.mono HB.out.size))
      have O5 : Hid (w5.ownsRow w1.heap.size 77 64 (.slice A1 j c1) j (sv (rows.take j)).flatten) := Lib.hid (own_same HO.out fun k hk => hb5.block k (HO.out.lt k hk).2)
      have s5 := B5.out.size
      clear hb5
      have K2 := Lib.hid (heap_alloc_at w5 (.cells (bv noSec).toArray 77))
      have K3 := Lib.hid (setRow_at (bv s).toArray K2.out)
      have BW : Hid (Below w5.heap.size w5 ((w5.alloc (.cells (bv noSec).toArray 77)).setRow w5.heap.size (bv s).toArray)) := Lib.hid (below_setRow ((Below.refl _ _).alloc (Nat.le_refl _) _) (Nat.le_refl _) _)
      have Z1 := Lib.hid (sec_toArray h64)
      have Z2 : Hid ((bv noSec).toArray.size = (bv s).toArray.size) := Lib.hid (by simp [bv, h64, noSec])
      have Z3 := Lib.hid (sec_one s)
      have Z4 : Hid ((Try.prog.info? 77).map (·.size) = some (bv s).length) := Lib.hid (by rw [secSize, bv_length, h64])
      have Z5 : Hid ((Value.agg (bv s).toArray).cells.size = 64) := Lib.hid (by simp [Value.cells, bv, h64])
      have Z6 : Hid ((Value.agg (bv noSec).toArray).cells.size = 64) := Lib.hid (by simp [Value.cells, bv, noSec])
      have Z7 : Hid ((bv s).length = 1 * 64) := Lib.hid (by simp [bv, h64])
      clear h64
      go_upto_region 7 with (first
        | refine wpList_alloc_as rfl 77 rfl (bv noSec).toArray secZero ?_
        | refine wpList_store_block rfl 77 (.tmp 14) (.tmp 39) rfl w5.heap.size (bv s).toArray rfl rfl (bv noSec).toArray 77 K2.out Z1.out Z2.out Z3.out ?_)
      obtain ⟨w6, hw6⟩ : ∃ x, (w5.alloc (.cells (bv noSec).toArray 77)).setRow w5.heap.size (bv s).toArray = x := ⟨_, rfl⟩
      rw [hw6] at K3 BW ⊢
      clear hw6 K2
      have B6 : Hid (Below w1.heap.size w1 w6) := Lib.hid (B5.out.trans (BW.out.mono s5))
      have O6 : Hid (w6.ownsRow w1.heap.size 77 64 (.slice A1 j c1) j (sv (rows.take j)).flatten) := Lib.hid (own_same O5.out fun k hk => BW.out.block k (O5.out.lt k hk).2)
      have s6 := B6.out.size
      have R6 : Hid (w6.rangeAt w5.heap.size 0 (bv s)) := Lib.hid (fun q v hv => by rw [Nat.zero_add, cell_of_block K3.out, List.getElem?_toArray]; exact hv)
      have SS : Hid (Fg.Src (w6.alloc (.cells (bv s).toArray 77)) (some ⟨w6.heap.size, 0, none⟩) 1 1 (bv s)) := Lib.hid (src_rows w6 (bv s) _ 1 (by simp [maxLen]))
      have BA := Lib.hid (B6.out.alloc s6 (.cells (bv s).toArray 77))
      have HNB : Hid ((j + 1) * 64 ≤ 140737488355328) := Lib.hid (by omega)
      go_wp2_with (first
        | refine wpList_load_mid rfl 77 (.tmp 14) rfl w5.heap.size 0 rfl (bv s) _ R6.out secUnder rfl Z4.out ?_
        | refine wpList_slice_one rfl 56 77 (.tmp 42) rfl 64 (.agg (bv noSec).toArray) (.agg (bv s).toArray) rfl Try.underlying56 wsecInfo (by decide) (by decide) Z5.out ?_
        | (at_builtin; refine wpList_append_any rfl (.tmp 41) (.tmp 43) 56 rfl w1.heap.size 77 (.agg (bv noSec).toArray) 64 64 Try.underlying56 secInfo' Z6.out (by decide) (by decide) (.slice A1 j c1) j _ rfl (O6.out.alloc _) (some ⟨w6.heap.size, 0, none⟩) 1 1 (bv s) rfl SS.out Z7.out (bv_one _) HNB.out BA.out.size ?_))
      intro v' w7 ho7 hg7 _ _
      have HB7 := Lib.hid (BA.out.grown hg7 BA.out.size (fun b hb => (O6.out.lt b hb).1))
      rw [← HT.out] at ho7
      have HO7 := Lib.hid ho7
      clear ho7 hg7
      go_wp2_with fail
      go_roundg (gk - 1)
      case measure => omega
      case rel => exact ⟨j + 1, by omega, by go_num, HO7.out, HB7.out⟩
    · obtain rfl : j = m := by omega
      have hjI : at_ + (j : Int) = 16 := by omega
      rw [List.take_of_length_le (by rw [HRL.out]; omega)] at HO
      have HO' : Hid (wr.ownsRow w1.heap.size 77 64 (.slice A1 rows.length c1) rows.length (sv rows).flatten) := Lib.hid (by rw [HRL.out]; exact HO.out)
      have SA := Lib.hid (SecsAt.of_own HO'.out HRS.out)
      have FO := Lib.hid (refopen_new rows A1 c1 wr SA.out (by rw [HRL.out]; omega))
      rw [HRL.out] at FO
      go_wp2_with fail
      refine FO.out.mono ?_
      rintro e w8 ⟨A8, c8, rfl, hs8, hb8, hn8⟩
      have N8 : Hid (∀ ad, A8 = some ad → w.heap.size < ad.block) := Lib.hid (fun ad had => Nat.lt_of_le_of_lt (Nat.le_trans B1.out.size HB.out.size) (hn8 ad had))
      have S8 := Lib.hid hs8
      have B8 : Hid (Below w.heap.size w w8) := Lib.hid (B1.out.trans ((HB.out.trans (hb8.mono HB.out.size)).mono B1.out.size))
      have RB8 : Hid (w8.heap[w.heap.size + 1 + 1]? = some (.cells #[.int .u64 0, .int .u32 0, .slice none 0 0] 40 (0, 0))) := Lib.hid (((HB.out.trans (hb8.mono HB.out.size)).block _ (block_lt RB1.out)).trans RB1.out)
      have LG8 := Lib.hid (((HB.out.trans (hb8.mono HB.out.size)).block _ (block_lt LK.out)).trans LK.out)
      have OPS : Hid (l.opens d seg at_ ↔ isRec rows ∧ (openedR rows).seq = l.next ∧ (openedR rows).epoch = l.epoch) := Lib.hid (by unfold Lg.opens; rw [HR.out])
      have OPR : Hid (l.opens d seg at_ → l.openR d seg at_ = openedR rows ∧ l.openN d seg at_ = openedN rows) := Lib.hid (fun ho => by rw [Lg.openR, Lg.openN, if_pos ho, if_pos ho, HR.out]; exact ⟨rfl, rfl⟩)
      clear hs8 hb8 hn8 FO HO' HO HRG hlt hj
      unfold recv
      obtain ⟨R, hR⟩ : ∃ R, openedR rows = R := ⟨_, rfl⟩
      obtain ⟨nn, hnn⟩ : ∃ nn, openedN rows = nn := ⟨_, rfl⟩
      rw [hR] at S8 OPS OPR
      rw [hnn] at OPR
      rw [hR, hnn]
      clear hR hnn
      obtain ⟨rs, re, rp⟩ := R
      simp only at S8 OPS OPR ⊢
      have K9 := Lib.hid (heap_alloc_at w8 (.cells #[.int .u64 rs, .int .u32 re, .slice A8 rp.length c8] 40))
      have B9 : Hid (Below w8.heap.size w8 (w8.alloc (.cells #[.int .u64 rs, .int .u32 re, .slice A8 rp.length c8] 40))) := Lib.hid ((Below.refl _ _).alloc (Nat.le_refl _) _)
      have S9 : Hid (Fg.Src (w8.alloc (.cells #[.int .u64 rs, .int .u32 re, .slice A8 rp.length c8] 40)) A8 rp.length c8 (bv rp)) := Lib.hid (S8.out.same fun ad had hne => heap_alloc_old _ _ (S8.out.lt had hne))
      by_cases hrec : isRec rows
      · rw [decide_eq_true hrec]
        go_upto_region 9 with fail
        generalize w8.alloc (.cells #[.int .u64 rs, .int .u32 re, .slice A8 rp.length c8] 40) = w9 at *
        have B9w : Hid (Below w.heap.size w w9) := Lib.hid (B8.out.trans (B9.out.mono B8.out.size))
        have R9 : Hid (w9.heap[w.heap.size + 1 + 1]? = some (.cells #[.int .u64 0, .int .u32 0, .slice none 0 0] 40 (0, 0))) := Lib.hid ((B9.out.block _ (block_lt RB8.out)).trans RB8.out)
        have L9 := Lib.hid ((B9.out.block _ (block_lt LG8.out)).trans LG8.out)
        have z0 := cell_of_block K9.out 0
        have z1 := cell_of_block K9.out 1
        have z2 := cell_of_block K9.out 2
        have y1 := cell_of_block L9.out 0
        have y2 := cell_of_block L9.out 1
        have r0 := cell_of_block R9.out 0
        have r1 := cell_of_block R9.out 1
        have r2 := cell_of_block R9.out 2
        have f0 := free_of_block R9.out 0
        have f1 := free_of_block R9.out 1
        have f2 := free_of_block R9.out 2
        by_cases hq : rs = l.next
        · by_cases hp : re = l.epoch
          · have HOP := Lib.hid (OPS.out.2 ⟨hrec, hq, hp⟩)
            clear hrec
            subst hq hp
            go_wp2_with fail
            have HY : Hid (∀ y0 y1 y2, LopenE w l d seg at_ (.returned (.tuple #[.agg #[.int .u64 l.next, .int .u32 l.epoch, .slice A8 rp.length c8], .int .i64 nn])) (((w9.setCell ⟨w.heap.size + 1 + 1, 0, none⟩ y0).setCell ⟨w.heap.size + 1 + 1, 1, none⟩ y1).setCell ⟨w.heap.size + 1 + 1, 2, none⟩ y2)) := Lib.hid (by
              intro y0 y1 y2
              obtain ⟨e1, e2⟩ := OPR.out HOP.out
              refine ⟨A8, c8, by rw [e1, e2]; rfl, ?_, below_set3' (by omega) B9w.out, N8.out⟩
              rw [e1]
              refine S9.out.same (fun ad had hne => ?_)
              have hn := src_ne S9.out R9.out (fun i x => by rcases i with _ | _ | _ | i <;> simp) had hne
              exact (hset_other _ _ _ hn).trans ((hset_other _ _ _ hn).trans (hset_other _ _ _ hn)))
            exact bodyPost_ret (v := .tuple #[.agg #[.int .u64 l.next, .int .u32 l.epoch, .slice A8 rp.length c8], .int .i64 nn]) (res_cell_tmp Try.results53 _ _ (w.heap.size + 1 + 1) 40 _ (0, 0) _ _ rfl rfl (set3 R9.out) Try.underlying40 rfl recInfo) rfl (HY.out _ _ _)
          · have HN : Hid (¬ l.opens d seg at_) := Lib.hid (fun ho => hp (OPS.out.1 ho).2.2)
            have hpb : (re == l.epoch) = false := beq_eq_false_iff_ne.2 hp
            clear hrec
            subst hq
            go_wp2_with fail
            exact bodyPost_ret (v := .tuple #[.agg #[.int .u64 0, .int .u32 0, .slice none 0 0], .int .i64 0]) (res_cell_tmp Try.results53 _ _ (w.heap.size + 1 + 1) 40 _ (0, 0) _ _ rfl rfl (set3 R9.out) Try.underlying40 rfl recInfo) rfl (LopenE.no HN.out (below_set3' (by omega) B9w.out))
        · have HN : Hid (¬ l.opens d seg at_) := Lib.hid (fun ho => hq (OPS.out.1 ho).2.1)
          have hqb : (rs == l.next) = false := beq_eq_false_iff_ne.2 hq
          clear hrec
          go_wp2_with fail
          exact bodyPost_ret (v := .tuple #[.agg #[.int .u64 0, .int .u32 0, .slice none 0 0], .int .i64 0]) (res_cell_tmp Try.results53 _ _ (w.heap.size + 1 + 1) 40 _ (0, 0) _ _ rfl rfl (set3 R9.out) Try.underlying40 rfl recInfo) rfl (LopenE.no HN.out (below_set3' (by omega) B9w.out))
      · have HN : Hid (¬ l.opens d seg at_) := Lib.hid (fun ho => hrec (OPS.out.1 ho).1)
        rw [decide_eq_false hrec]
        clear hrec
        go_upto_region 9 with fail
        generalize w8.alloc (.cells #[.int .u64 rs, .int .u32 re, .slice A8 rp.length c8] 40) = w9 at *
        have B9w : Hid (Below w.heap.size w w9) := Lib.hid (B8.out.trans (B9.out.mono B8.out.size))
        have R9 : Hid (w9.heap[w.heap.size + 1 + 1]? = some (.cells #[.int .u64 0, .int .u32 0, .slice none 0 0] 40 (0, 0))) := Lib.hid ((B9.out.block _ (block_lt RB8.out)).trans RB8.out)
        have L9 := Lib.hid ((B9.out.block _ (block_lt LG8.out)).trans LG8.out)
        have z0 := cell_of_block K9.out 0
        have z1 := cell_of_block K9.out 1
        have z2 := cell_of_block K9.out 2
        have y1 := cell_of_block L9.out 0
        have y2 := cell_of_block L9.out 1
        have r0 := cell_of_block R9.out 0
        have r1 := cell_of_block R9.out 1
        have r2 := cell_of_block R9.out 2
        have f0 := free_of_block R9.out 0
        have f1 := free_of_block R9.out 1
        have f2 := free_of_block R9.out 2
        go_wp2_with fail
        exact bodyPost_ret (v := .tuple #[.agg #[.int .u64 0, .int .u32 0, .slice none 0 0], .int .i64 0]) (res_cell_tmp Try.results53 _ _ (w.heap.size + 1 + 1) 40 _ (0, 0) _ _ rfl rfl (set3 R9.out) Try.underlying40 rfl recInfo) rfl (LopenE.no HN.out (below_set3' (by omega) B9w.out))
end Go.Proofs.Ytogkibikghbghaa.Wal

namespace Go.Proofs.Ytogkibikghbghaa.Wal
open Go.RowKit Go.Proofs.Ytogkibikghbghaa.Fg Go.Proofs.Ytogkibikghbghaa.Frame Go.Proofs.Ytogkibikghbghaa.Disk Go.Proofs.Ytogkibikghbghaa.Area

def recA (A : Option Addr) (c : Nat) (r : Rec) : Array Value := #[.int .u64 r.seq, .int .u32 r.epoch, .slice A r.pay.length c]
/-- In the middle of a round of the scan. -/
def RCut (wr : World) (tb qb : Nat) (l : Lg) (d : Dk) (n : Value) (wx : World) : Prop :=
  ∃ (A : Option Addr) (c : Nat) (r : Rec) (lx : Lg) (nn : Int), n = .int .i64 nn ∧ wx.heap[qb]? = some (.cells (recA A c r) 40 (0, 0)) ∧ Fg.Src wx A r.pay.length c (bv r.pay) ∧ (∀ ad, A = some ad → wr.heap.size < ad.block) ∧
    wx.heap[tb]? = some (.cells (rl lx) 62 (0, 0)) ∧ l.step d = some (r, { lx with taken := lx.taken + nn }) ∧ 0 ≤ lx.taken ∧ lx.taken + nn ≤ 16 ∧ 0 < nn ∧ lx.next = l.next ∧ Keep (fun k => k = tb) wr wx
def RScan (w w2 : World) (b tb : Nat) (C0 : Array Value) (d : Dk) (G : Nat → Prop) (all : List Rec × Lg) (k : Nat) (v : Value) (wr : World) : Prop :=
  ∃ rs l, Recs wr w2.heap.size v rs ∧ wr.heap[tb]? = some (.cells (rl l) 62 (0, 0)) ∧ l.ok d.st.length ∧ Below w.heap.size w wr ∧ wr.heap[b]? = some (.cells C0 59 (0, 0)) ∧ IsRef wr (.agg C0) d G ∧
    all = (rs ++ (scanF k l d).1, (scanF k l d).2) ∧ l.left d.st.length ≤ k ∧ w2.heap.size ≤ wr.heap.size ∧ rs.length + k = 496

set_option maxRecDepth 100000 in
set_option maxHeartbeats 4000000 in
theorem refscan_any {w : World} {v : Value} {d : Dk} {G : Nat → Prop} (h : IsRef w v d G) (hby : Byt d) (epoch seq seg : Int) (he : 0 ≤ epoch ∧ epoch < 4294967296) (hs : 0 ≤ seq ∧ seq < 18446744073709551616) :
    Calls Try.prog 29 #[v, .int .u32 epoch, .int .u64 seq, .int .i64 seg] w (ScanE w d epoch seq seg) := by
  have H := Lib.hid h
  obtain ⟨A0, c00, A2, c2, lr, rfl, hrv, hG⟩ := h
  have hok := Lib.hid hrv.ok
  have HBY := Lib.hid hby
  obtain ⟨C0, hC0⟩ : ∃ C, rcells A0 c00 A2 c2 lr d = C := ⟨_, rfl⟩
  have hst0 : C0[0]? = some (.slice A0 d.st.length c00) := by rw [← hC0]; rfl
  have ST0 := Lib.hid hst0
  have U0 : Hid ((Try.prog.info? 59).map (·.size) = some C0.size) := Lib.hid (by rw [← hC0]; exact info_rd)
  rw [hC0] at H ⊢
  have ST := Lib.hid (fun w' => refstart_any d.st.length epoch seq seg w')
  have HES := Lib.hid (And.intro he hs)
  have B0 := Lib.hid ((Below.refl w.heap.size w).alloc (Nat.le_refl _) (.cells C0 59))
  have K0 := Lib.hid (heap_alloc_at w (.cells C0 59))
  clear hrv hG hby hst0 hC0 he hs
  go_enter Try.func29, Try.ntmps29
  go_upto_region 1 with fail
  generalize w.alloc (.cells C0 59) = w0 at *
  have c0 : w0.cell? ⟨w.heap.size, 0, none⟩ = some (.slice A0 d.st.length c00) := (cell_of_block K0.out 0).trans ST0.out
  go_wp2_with fail
  refine (ST.out w0).mono ?_
  rintro e w1 ⟨rfl, hb1⟩
  have B1 : Hid (Below w.heap.size w w1) := Lib.hid (B0.out.trans (hb1.mono B0.out.size))
  have K1 := Lib.hid ((hb1.block _ (block_lt K0.out)).trans K0.out)
  clear hb1 c0
  by_cases hE : startE d.st.length seq seg = 0
  · have HSE := Lib.hid hE
    rw [if_pos hE, hE]
    clear hE
    have hnew : (Lg.new epoch seq seg).ok d.st.length := by
      have h1 := HSE.out
      unfold startE at h1
      split at h1
      · rename_i ho
        exact ⟨HES.out.1.1, HES.out.1.2, HES.out.2.1, HES.out.2.2, ho, ho, Int.le_refl 0, by show (0 : Int) ≤ 16; decide⟩
      · cases h1
    have HNEW := Lib.hid hnew
    clear hnew
    unfold rl
    have K11 := Lib.hid (heap_alloc_at w1 (.cells (rl (Lg.new epoch seq seg)) 62))
    have B2 := Lib.hid (B1.out.alloc B1.out.size (.cells (rl (Lg.new epoch seq seg)) 62))
    have K2 := Lib.hid ((heap_alloc_old w1 (.cells (rl (Lg.new epoch seq seg)) 62) (block_lt K1.out)).trans K1.out)
    go_upto_region 4 with fail
    have ew : w1.alloc (.cells #[.int .u32 (Lg.new epoch seq seg).epoch, .int .u64 (Lg.new epoch seq seg).next, .int .i64 (Lg.new epoch seq seg).start, .int .i64 (Lg.new epoch seq seg).seg, .int .i64 (Lg.new epoch seq seg).taken] 62) = w1.alloc (.cells (rl (Lg.new epoch seq seg)) 62) := rfl
    rw [ew]
    clear ew
    generalize w1.alloc (.cells (rl (Lg.new epoch seq seg)) 62) = w2 at *
    have HTB : Hid (w1.heap.size < w2.heap.size ∧ w.heap.size < w1.heap.size) := Lib.hid ⟨block_lt K11.out, block_lt K1.out⟩
    have START : Hid (RScan w w2 w.heap.size w1.heap.size C0 d G (scanAll d epoch seq seg) 496 (.slice (some ⟨w2.heap.size, 0, none⟩) 0 0) (w2.alloc (.cells #[] 40))) := Lib.hid
      ⟨[], Lg.new epoch seq seg, ⟨[], rfl, World.ownsRow_made w2 #[] 0 (Nat.le_refl _) (Nat.zero_le _) rfl, fun _ h => by cases h⟩, (heap_alloc_old _ _ HTB.out.1).trans K11.out, HNEW.out, B2.out.alloc B2.out.size _, (heap_alloc_old _ _ (block_lt K2.out)).trans K2.out,
        (H.out.below B2.out).below ((Below.refl _ _).alloc (Nat.le_refl _) _), by simp [scanAll], (left_range HNEW.out).2, by simp, rfl⟩
    go_wp2_with fail
    go_loopg [13] 496 (fun k v wr => RScan w w2 w.heap.size w1.heap.size C0 d G (scanAll d epoch seq seg) k v wr)
    case atStart => exact START.out
    case round =>
      obtain ⟨rs, l, hr, r1, r2, r3, r4, r5, r6, r7, r8, r9⟩ := hrel
      obtain ⟨A1, n1, c1, rfl⟩ := hr.form
      have HR := Lib.hid hr
      have HVB : Hid (∀ k, (Value.slice A1 n1 c1).ownBlock = some k → k < wr.heap.size) := Lib.hid (by obtain ⟨_, _, h2, _⟩ := hr; exact fun k hk => (h2.lt k hk).2)
      have L11 := Lib.hid r1
      have HOK := Lib.hid r2
      have BW := Lib.hid r3
      have D4 := Lib.hid r4
      have HI := Lib.hid r5
      have HSC0 := Lib.hid r6
      have HLF := Lib.hid r7
      have HSZ := Lib.hid r8
      have HLEN := Lib.hid r9
      clear hr r1 r2 r3 r4 r5 r6 r7 r8 r9
      have l1 := cell_of_block L11.out 1
      have l3 := cell_of_block L11.out 3
      have l4 := cell_of_block L11.out 4
      simp only [rl] at l1 l3 l4
      by_cases hnx : l.next = 0
      · have HSC : Hid (scanAll d epoch seq seg = (rs, l)) := Lib.hid (by rw [HSC0.out, scanF_stop _ (.inl hnx), List.append_nil])
        have hnb : (l.next != 0) = false := bne_eq_false_iff_eq.2 hnx
        have HF : Hid (∀ k, ScanE w d epoch seq seg (.returned (.tuple #[.slice A1 n1 c1, .int .i64 l.seg, .int .i64 0])) (wr.drewN k)) := Lib.hid (by
          intro k
          refine ⟨.slice A1 n1 c1, by rw [HSE.out, if_pos rfl, HSC.out], ?_, below_drewN BW.out _⟩
          rw [HSE.out, if_pos rfl, HSC.out]
          exact own_recs (HR.out.keep ((Keep.refl (fun _ => False) wr).drewN k) (fun k h => h.elim)) B2.out.size)
        clear hnx
        go_wp2_with fail
        go_quiet (fail)
        go_wp2_with fail
        exact bodyPost_ret (v := .tuple #[.slice A1 n1 c1, .int .i64 l.seg, .int .i64 0]) (by simp [results, Try.results29, go_sem]) rfl (HF.out _)
      · have hnb : (l.next != 0) = true := bne_iff_ne.2 hnx
        have HNX := Lib.hid hnx
        clear hnx
        have AT1 := Lib.hid (refat_any HI.out HBY.out l l.seg l.taken HOK.out.sg HOK.out.t0 HOK.out.t1)
        have O1 := Lib.hid (openN_range (l := l) hok.out HBY.out l.seg HOK.out.t0 HOK.out.t1)
        obtain ⟨q1, hq1⟩ : ∃ x, l.openN d l.seg l.taken = x := ⟨_, rfl⟩
        obtain ⟨R1, hR1⟩ : ∃ x, l.openR d l.seg l.taken = x := ⟨_, rfl⟩
        have AT1 : Hid (Calls Try.prog 53 #[.agg (rl l), .agg C0, .int .i64 l.seg, .int .i64 l.taken] wr (fun e w' => ∃ A c, e = .returned (.tuple #[.agg (recA A c R1), .int .i64 q1]) ∧ Fg.Src w' A R1.pay.length c (bv R1.pay) ∧ Below wr.heap.size wr w' ∧ ∀ ad, A = some ad → wr.heap.size < ad.block)) := Lib.hid (by rw [← hq1, ← hR1]; exact AT1.out)
        have HQ1 := Lib.hid hq1
        have HR1 := Lib.hid hR1
        clear hq1 hR1
        unfold recA rl at AT1
        go_wp2_with (first
          | refine wpList_load_block rfl 62 (.tmp 11) rfl w1.heap.size rfl (rl l) 62 (0, 0) L11.out _ Try.underlying62 rfl rlInfo ?_
          | refine wpList_load_block rfl 59 (.tmp 4) rfl w.heap.size rfl C0 59 (0, 0) D4.out _ Try.underlying59 rfl U0.out ?_)
        refine AT1.out.mono ?_
        rintro e w5 ⟨A5, c5, rfl, hs5, hb5, hn5⟩
        have S5 := Lib.hid hs5
        have B5 := Lib.hid hb5
        have N5 := Lib.hid hn5
        clear hs5 hb5 hn5 AT1 l1 l3 l4
        have Q6 := Lib.hid (heap_alloc_at w5 (.cells (recA A5 c5 R1) 40))
        have B6 : Hid (Below wr.heap.size wr (w5.alloc (.cells (recA A5 c5 R1) 40))) := Lib.hid (B5.out.alloc B5.out.size _)
        have S6 := Lib.hid (S5.out.same fun ad had hne => heap_alloc_old w5 (.cells (recA A5 c5 R1) 40) (S5.out.lt had hne))
        go_upto_if 46 with fail
        have ew : w5.alloc (.cells #[.int .u64 R1.seq, .int .u32 R1.epoch, .slice A5 R1.pay.length c5] 40) = w5.alloc (.cells (recA A5 c5 R1) 40) := rfl
        rw [ew]
        clear ew
        have H56 : Hid (w5.heap.size < (w5.alloc (.cells (recA A5 c5 R1) 40)).heap.size) := Lib.hid (block_lt Q6.out)
        generalize w5.alloc (.cells (recA A5 c5 R1) 40) = w6 at *
        have L6 := Lib.hid ((B6.out.block _ (block_lt L11.out)).trans L11.out)
        have D6 := Lib.hid ((B6.out.block _ (block_lt D4.out)).trans D4.out)
        have HI6 := Lib.hid (HI.out.below B6.out)
        go_cut [15] (fun n wx => RCut wr w1.heap.size w5.heap.size l d n wx)
        case first =>
          by_cases hz : q1 = 0
          · subst hz
            have e1 : segE d.st.length l.seg = 0 := if_pos HOK.out.sg
            have NX := Lib.hid (fun w' => Ref09.next_any (d.st.length : Int) l.seg w')
            rw [e1] at NX
            clear e1
            have c60 : w6.cell? ⟨w.heap.size, 0, none⟩ = some (.slice A0 d.st.length c00) := (cell_of_block D6.out 0).trans ST0.out
            have l2 := cell_of_block L6.out 2
            have l3 := cell_of_block L6.out 3
            simp only [rl] at l2 l3
            by_cases hst : nextV d.st.length l.seg = l.start
            · have HST : Hid (l.step d = none) := Lib.hid (by unfold Lg.step; rw [if_neg (by rw [HQ1.out]; omega), if_pos hst])
              have HSC : Hid (scanAll d epoch seq seg = (rs, l)) := Lib.hid (by rw [HSC0.out, scanF_stop _ (.inr HST.out), List.append_nil])
              have HF : Hid (∀ k, ScanE w d epoch seq seg (.returned (.tuple #[.slice A1 n1 c1, .int .i64 l.seg, .int .i64 0])) (w6.drewN k)) := Lib.hid (by
                intro k
                refine ⟨.slice A1 n1 c1, by rw [HSE.out, if_pos rfl, HSC.out], ?_, below_drewN (BW.out.trans (B6.out.mono BW.out.size)) _⟩
                rw [HSE.out, if_pos rfl, HSC.out]
                exact own_recs ((HR.out.keep (Keep.of_new (S := fun _ => False) B6.out) (fun k h => h.elim)).keep ((Keep.refl (fun _ => False) w6).drewN k) (fun k h => h.elim)) B2.out.size)
              have hsb : (nextV d.st.length l.seg == l.start) = true := beq_iff_eq.2 hst
              clear hst
              go_wp2_with fail
              refine (NX.out _).mono ?_
              rintro e w7 ⟨rfl, rfl⟩
              go_wp2_with fail
              go_quiet (fail)
              go_wp2_with fail
              exact bodyPost_ret (v := .tuple #[.slice A1 n1 c1, .int .i64 l.seg, .int .i64 0]) (by simp [results, Try.results29, go_sem]) rfl (HF.out _)
            · have HNS := Lib.hid hst
              have hsb : (nextV d.st.length l.seg == l.start) = false := beq_eq_false_iff_ne.2 hst
              obtain ⟨kx, hkx⟩ : ∃ x, nextV d.st.length l.seg = x := ⟨_, rfl⟩
              have HKX := Lib.hid hkx
              have AT2 := Lib.hid (refat_any HI6.out HBY.out l kx 0 (by rw [← hkx]; exact nextV_ok HOK.out.sg) (Int.le_refl 0) (by decide))
              have O2 := Lib.hid (openN_range (l := l) hok.out HBY.out kx (Int.le_refl 0) (by decide))
              obtain ⟨q2, hq2⟩ : ∃ x, l.openN d kx 0 = x := ⟨_, rfl⟩
              obtain ⟨R2, hR2⟩ : ∃ x, l.openR d kx 0 = x := ⟨_, rfl⟩
              have AT2 : Hid (Calls Try.prog 53 #[.agg (rl l), .agg C0, .int .i64 kx, .int .i64 0] w6 (fun e w' => ∃ A c, e = .returned (.tuple #[.agg (recA A c R2), .int .i64 q2]) ∧ Fg.Src w' A R2.pay.length c (bv R2.pay) ∧ Below w6.heap.size w6 w' ∧ ∀ ad, A = some ad → w6.heap.size < ad.block)) := Lib.hid (by rw [← hq2, ← hR2]; exact AT2.out)
              have HQ2 := Lib.hid hq2
              have HR2 := Lib.hid hR2
              rw [hkx] at hsb NX
              clear hst hkx hq2 hR2
              unfold recA at AT2
              go_wp2_with fail
              refine (NX.out _).mono ?_
              rintro e w7 ⟨rfl, rfl⟩
              go_wp2_with (first
                | refine wpList_load_block rfl 62 (.tmp 11) rfl w1.heap.size rfl (rl l) 62 (0, 0) L6.out _ Try.underlying62 rfl rlInfo ?_
                | refine wpList_load_block rfl 59 (.tmp 4) rfl w.heap.size rfl C0 59 (0, 0) D6.out _ Try.underlying59 rfl U0.out ?_)
              refine AT2.out.mono ?_
              rintro e w8 ⟨A9, c9, rfl, hs9, hb9, hn9⟩
              have Q8 := Lib.hid ((hb9.block _ (block_lt Q6.out)).trans Q6.out)
              have Q9 := Lib.hid (setRow_at (recA A9 c9 R2) Q8.out)
              have B8 : Hid (Below wr.heap.size wr w8) := Lib.hid (B6.out.trans (hb9.mono B6.out.size))
              have B9 : Hid (Below wr.heap.size wr (w8.setRow w5.heap.size (recA A9 c9 R2))) := Lib.hid (below_setRow B8.out B5.out.size _)
              have S9 : Hid (Fg.Src (w8.setRow w5.heap.size (recA A9 c9 R2)) A9 R2.pay.length c9 (bv R2.pay)) := Lib.hid (hs9.same fun ad had hne => setRow_other _ _ _ _ (by have := hn9 ad had; have := H56.out; omega))
              have N9 : Hid (∀ ad, A9 = some ad → wr.heap.size < ad.block) := Lib.hid (fun ad had => by have := hn9 ad had; have := H56.out; have := B5.out.size; omega)
              have L9 := Lib.hid ((B9.out.block _ (block_lt L11.out)).trans L11.out)
              have EW : w8.setRow w5.heap.size #[.int .u64 R2.seq, .int .u32 R2.epoch, .slice A9 R2.pay.length c9] = w8.setRow w5.heap.size (recA A9 c9 R2) := rfl
              clear hs9 hb9 hn9 AT2 c60 l2 l3
              go_upto_region 11 with (refine wpList_store_block rfl 40 (.tmp 14) (.tmp 65) rfl w5.heap.size #[.int .u64 R2.seq, .int .u32 R2.epoch, .slice A9 R2.pay.length c9] rfl rfl (recA A5 c5 R1) 40 Q8.out (by kernel_rfl) rfl (by simp [Value.oneCell']) ?_)
              try rw [EW]
              clear EW
              generalize w8.setRow w5.heap.size (recA A9 c9 R2) = w9 at *
              by_cases hz2 : q2 = 0
              · subst hz2
                have HST : Hid (l.step d = none) := Lib.hid (by unfold Lg.step; rw [if_neg (by rw [HQ1.out]; omega), if_neg HNS.out, HKX.out, if_pos HQ2.out])
                have HSC : Hid (scanAll d epoch seq seg = (rs, l)) := Lib.hid (by rw [HSC0.out, scanF_stop _ (.inr HST.out), List.append_nil])
                have HF : Hid (∀ k, ScanE w d epoch seq seg (.returned (.tuple #[.slice A1 n1 c1, .int .i64 l.seg, .int .i64 0])) (w9.drewN k)) := Lib.hid (by
                  intro k
                  refine ⟨.slice A1 n1 c1, by rw [HSE.out, if_pos rfl, HSC.out], ?_, below_drewN (BW.out.trans (B9.out.mono BW.out.size)) _⟩
                  rw [HSE.out, if_pos rfl, HSC.out]
                  exact own_recs ((HR.out.keep (Keep.of_new (S := fun _ => False) B9.out) (fun k h => h.elim)).keep ((Keep.refl (fun _ => False) w9).drewN k) (fun k h => h.elim)) B2.out.size)
                have m3 := cell_of_block L9.out 3
                simp only [rl] at m3
                go_wp2_with fail
                go_quiet (fail)
                go_wp2_with fail
                exact bodyPost_ret (v := .tuple #[.slice A1 n1 c1, .int .i64 l.seg, .int .i64 0]) (by simp [results, Try.results29, go_sem]) rfl (HF.out _)
              · have hzb : (q2 == 0) = false := beq_eq_false_iff_ne.2 hz2
                have HZ2 := Lib.hid hz2
                have m3 := cell_of_block L9.out 3
                have m4 := cell_of_block L9.out 4
                have f3 := free_of_block L9.out 3
                have f4 := free_of_block L9.out 4
                simp only [rl] at m3 m4
                clear hz2
                go_wp2_with fail
                go_meet
                refine ⟨A9, c9, R2, { l with seg := kx, taken := 0 }, q2, rfl, ?_, ?_, N9.out, hset_at _ _ 4 _ (hset_at _ _ 3 _ L9.out), ?_, Int.le_refl 0, ?_, ?_, rfl, ((Keep.of_new (S := fun k => k = w1.heap.size) B9.out).setCell ⟨w1.heap.size, 3, none⟩ _ (fun _ => rfl)).setCell ⟨w1.heap.size, 4, none⟩ _ (fun _ => rfl)⟩
                · have hne : w5.heap.size ≠ w1.heap.size := by have := B5.out.size; have := HSZ.out; have := HTB.out.1; omega
                  rw [hset_other _ _ _ hne, hset_other _ _ _ hne]
                  exact Q9.out
                · refine S9.out.same fun ad had hne => ?_
                  have hne : ad.block ≠ w1.heap.size := by have := N9.out ad had; have := HSZ.out; have := HTB.out.1; omega
                  rw [hset_other _ _ _ hne, hset_other _ _ _ hne]
                · unfold Lg.step
                  rw [if_neg (by rw [HQ1.out]; omega), if_neg HNS.out, HKX.out, if_neg (by rw [HQ2.out]; exact HZ2.out), HQ2.out, HR2.out]
                  show some (R2, _) = some (R2, _)
                  congr 3
                  show q2 = 0 + q2
                  omega
                · show (0 : Int) + q2 ≤ 16
                  have := O2.out
                  rw [HQ2.out] at this
                  omega
                · have := O2.out
                  rw [HQ2.out] at this
                  have := HZ2.out
                  omega
          · have hzb : (q1 == 0) = false := beq_eq_false_iff_ne.2 hz
            have HZ := Lib.hid hz
            clear hz
            go_wp2_with fail
            go_meet
            have o1 := O1.out
            rw [HQ1.out] at o1
            refine ⟨A5, c5, R1, l, q1, rfl, Q6.out, S6.out, N5.out, L6.out, ?_, HOK.out.t0, ?_, ?_, rfl, Keep.of_new B6.out⟩
            · unfold Lg.step
              rw [if_pos (by rw [HQ1.out]; have := HZ.out; omega), HQ1.out, HR1.out]
            · omega
            · have := HZ.out; omega
        case rest =>
          obtain ⟨A9, c9, r, lx, nn, rfl, q9, s9, n9, k9, st9, t90, t91, t92, nx9, kp9⟩ := hcut
          have Q9 := Lib.hid q9
          have S9 := Lib.hid s9
          have N9 := Lib.hid n9
          have K9 := Lib.hid k9
          have HST := Lib.hid st9
          have HNN := Lib.hid nx9
          have KP := Lib.hid kp9
          have T9 : Hid (0 ≤ lx.taken ∧ lx.taken + nn ≤ 16 ∧ 0 < nn) := Lib.hid ⟨t90, t91, t92⟩
          clear q9 s9 n9 k9 st9 nx9 kp9
          have m1 := cell_of_block K9.out 1
          have m4 := cell_of_block K9.out 4
          have f1 := free_of_block K9.out 1
          have f4 := free_of_block K9.out 4
          simp only [rl] at m1 m4
          have W3 : IntKind.i64.wrap (lx.taken + nn) = lx.taken + nn := by rw [IntKind.wrap_i64]; omega
          have LY := Lib.hid (hset_at _ _ 1 (.int .u64 (IntKind.u64.wrap (lx.next + 1))) (hset_at _ _ 4 (.int .i64 (lx.taken + nn)) K9.out))
          have KY : Hid (Keep (fun k => k = w1.heap.size) wr ((wc.setCell ⟨w1.heap.size, 4, none⟩ (.int .i64 (lx.taken + nn))).setCell ⟨w1.heap.size, 1, none⟩ (.int .u64 (IntKind.u64.wrap (lx.next + 1))))) := Lib.hid ((KP.out.setCell ⟨w1.heap.size, 4, none⟩ _ (fun _ => rfl)).setCell ⟨w1.heap.size, 1, none⟩ _ (fun _ => rfl))
          have QY : Hid (((wc.setCell ⟨w1.heap.size, 4, none⟩ (.int .i64 (lx.taken + nn))).setCell ⟨w1.heap.size, 1, none⟩ (.int .u64 (IntKind.u64.wrap (lx.next + 1)))).heap[w5.heap.size]? = some (.cells #[.int .u64 r.seq, .int .u32 r.epoch, .slice A9 r.pay.length c9] 40 (0, 0))) := Lib.hid (by
            have hne : w5.heap.size ≠ w1.heap.size := by have := B5.out.size; have := HSZ.out; have := HTB.out.1; omega
            rw [hset_other _ _ _ hne, hset_other _ _ _ hne]
            exact Q9.out)
          have SY : Hid (Fg.Src ((wc.setCell ⟨w1.heap.size, 4, none⟩ (.int .i64 (lx.taken + nn))).setCell ⟨w1.heap.size, 1, none⟩ (.int .u64 (IntKind.u64.wrap (lx.next + 1)))) A9 r.pay.length c9 (bv r.pay)) := Lib.hid (S9.out.same fun ad had hne => by
            have hne : ad.block ≠ w1.heap.size := by have := N9.out ad had; have := HSZ.out; have := HTB.out.1; omega
            rw [hset_other _ _ _ hne, hset_other _ _ _ hne])
          go_upto_region 16 with fail
          generalize (wc.setCell ⟨w1.heap.size, 4, none⟩ (.int .i64 (lx.taken + nn))).setCell ⟨w1.heap.size, 1, none⟩ (.int .u64 (IntKind.u64.wrap (lx.next + 1))) = w7 at *
          clear m1 m4 f1 f4
          have z0 := cell_of_block QY.out 0
          have z1 := cell_of_block QY.out 1
          have z2 := cell_of_block QY.out 2
          have HTBL : Hid (∀ k, (fun k => k = w1.heap.size) k → k < w2.heap.size) := Lib.hid (fun k e => by have := HTB.out.1; have e' : k = w1.heap.size := e; omega)
          have R7 := Lib.hid (HR.out.keep KY.out HTBL.out)
          have RA := Lib.hid (R7.out.keep ((Keep.refl (fun _ => False) w7).alloc (.cells #[.int .u64 r.seq, .int .u32 r.epoch, .slice A9 r.pay.length c9] 40)) (fun k h => h.elim))
          have SA := Lib.hid (SY.out.same fun ad had hne => heap_alloc_old w7 (.cells #[.int .u64 r.seq, .int .u32 r.epoch, .slice A9 r.pay.length c9] 40) (SY.out.lt had hne))
          have KA := Lib.hid (KY.out.alloc (.cells #[.int .u64 r.seq, .int .u32 r.epoch, .slice A9 r.pay.length c9] 40))
          have SS : Hid (Fg.Src (w7.alloc (.cells #[.int .u64 r.seq, .int .u32 r.epoch, .slice A9 r.pay.length c9] 40)) (some ⟨w7.heap.size, 0, none⟩) 1 1 [.int .u64 r.seq, .int .u32 r.epoch, .slice A9 r.pay.length c9]) := Lib.hid (src_rows w7 [.int .u64 r.seq, .int .u32 r.epoch, .slice A9 r.pay.length c9] _ 1 (by simp [maxLen]))
          have HA : Hid (w2.heap.size ≤ (w7.alloc (.cells #[.int .u64 r.seq, .int .u32 r.epoch, .slice A9 r.pay.length c9] 40)).heap.size) := Lib.hid (Nat.le_trans HSZ.out KA.out.size)
          have LA := Lib.hid ((heap_alloc_old w7 (.cells #[.int .u64 r.seq, .int .u32 r.epoch, .slice A9 r.pay.length c9] 40) (block_lt LY.out)).trans LY.out)
          obtain ⟨rl', hrl, hrow, hrs⟩ := RA.out
          obtain rfl := Recs.len hrow
          have HROW := Lib.hid hrow
          have HRS := Lib.hid hrs
          have HRLn : Hid (rl'.length ≤ 1000000) := Lib.hid (by have h1 := HLEN.out; rw [← hrl, List.length_map] at h1; omega)
          have HNB : Hid ((rl'.length + 1) * 40 ≤ 140737488355328) := Lib.hid (by have := HRLn.out; omega)
          clear hrow hrs
          go_wp2_with (first
            | refine wpList_slice_one rfl 30 40 (.tmp 82) rfl 3 (.agg #[.int .u64 0, .int .u32 0, .slice none 0 0]) (.agg #[.int .u64 r.seq, .int .u32 r.epoch, .slice A9 r.pay.length c9]) rfl Try.underlying30 recInfo2 (by decide) (by decide) rfl ?_
            | (at_builtin; refine wpList_append_any rfl (.tmp 81) (.tmp 83) 30 rfl w2.heap.size 40 (.agg #[.int .u64 0, .int .u32 0, .slice none 0 0]) 3 40 Try.underlying30 recInfo3 rfl (by decide) (by decide) (.slice A1 rl'.length c1) rl'.length _ rfl HROW.out (some ⟨w7.heap.size, 0, none⟩) 1 1 [.int .u64 r.seq, .int .u32 r.epoch, .slice A9 r.pay.length c9] rfl SS.out rfl (by simp [Value.oneCell']) HNB.out HA.out ?_))
          intro v' w9 ho9 hg9 _ hat9
          have RP : Hid (Recs w9 w2.heap.size v' (rs ++ [r])) := Lib.hid (by
            rw [← hrl]
            refine Recs.push HRS.out SA.out (fun ad had hne => ⟨?_, fun e => ?_⟩) ho9 hg9 (by simpa using hat9)
            · have h1 := N9.out ad had; have h2 := HSZ.out; omega
            · have h1 := N9.out ad had; have h2 := HVB.out _ e; omega)
          have B9 : Hid (Below w2.heap.size (w7.alloc (.cells #[.int .u64 r.seq, .int .u32 r.epoch, .slice A9 r.pay.length c9] 40)) w9) := Lib.hid ((Below.refl _ _).grown hg9 HA.out (fun k hk => (HROW.out.lt k hk).1))
          clear ho9 hg9 hat9 z0 z1 z2 RA SA SS HROW HRS
          have ok6 := step_ok (N := 0) HOK.out hok.out HBY.out HST.out
          have lf6 := left_step HOK.out hok.out HBY.out HST.out
          have lr6 := left_range ok6.1
          obtain ⟨kk, rfl⟩ : ∃ kk, gk = kk + 1 := ⟨gk - 1, by have := HLF.out; omega⟩
          have HSC := scanF_go kk HNX.out HST.out
          have s9 := B9.out.size
          have s8 := HA.out
          go_wp2_with fail
          go_roundg kk
          case measure => omega
          case rel =>
            have e9 : w9.heap[w1.heap.size]? = some (.cells (rl ({ lx with taken := lx.taken + nn } : Lg).succ) 62 (0, 0)) := (B9.out.block _ HTB.out.1).trans LA.out
            have kw : Keep (fun k => k = w1.heap.size ∨ w2.heap.size ≤ k) wr w9 := (KA.out.mono (T := fun k => k = w1.heap.size ∨ w2.heap.size ≤ k) (fun i _ h => .inl h)).trans (Keep.of_below B9.out) (fun i _ h => .inr h)
            have hb9 : Below w.heap.size w w9 := BW.out.trans (kw.below BW.out.size (fun i hi => by have := HTB.out; have := B2.out.size; omega))
            refine ⟨rs ++ [r], ({ lx with taken := lx.taken + nn } : Lg).succ, RP.out, e9, ⟨ok6.1.e0, ok6.1.e1, by show 0 ≤ (lx.next + 1) % _; omega, by show (lx.next + 1) % _ < _; omega, ok6.1.st, ok6.1.sg, ok6.1.t0, ok6.1.t1⟩, hb9,
              (kw.block _ (block_lt D4.out) (fun h => by have := HTB.out; omega)).trans D4.out, H.out.below hb9, ?_, ?_, by omega, by have := HLEN.out; simp; omega⟩
            · rw [HSC0.out, HSC]; simp
            · show ({ lx with taken := lx.taken + nn } : Lg).left d.st.length ≤ kk
              have := HLF.out
              omega
  · have HF : Hid (ScanE w d epoch seq seg (.returned (.tuple #[.slice none 0 0, .int .i64 0, .int .i64 (startE d.st.length seq seg)])) (w1.alloc (.cells (rl lg0) 62))) := Lib.hid (by
      refine ⟨.slice none 0 0, by rw [if_neg hE], ?_, B1.out.alloc B1.out.size _⟩
      rw [if_neg hE]
      exact Recs.nil _ _)
    have hEb : (startE d.st.length seq seg != 0) = true := bne_iff_ne.2 hE
    rw [if_neg hE]
    unfold rl lg0 at HF ⊢
    obtain ⟨er, her⟩ : ∃ x, startE d.st.length seq seg = x := ⟨_, rfl⟩
    rw [her] at hEb HF ⊢
    clear hE her
    go_wp2_with fail
    exact bodyPost_ret (v := .tuple #[.slice none 0 0, .int .i64 0, .int .i64 er]) (by simp [results, Try.results29, go_sem]) rfl HF.out
end Go.Proofs.Ytogkibikghbghaa.Wal
