/- Contracts of the document's header and Make. Conditions: none beyond each lemma's own hypotheses. -/
import Derived.Test.YtjembpchgemhnaaFgHeadRead
set_option linter.unusedVariables false
set_option linter.unusedSimpArgs false
namespace Go.Proofs.Ytjembpchgemhnaa.Head
open Go.RowKit Go.Proofs.Ytjembpchgemhnaa.Fg

theorem two_any (x : Int) (h0 : 0 ≤ x) (h1 : x ≤ 65535) (w : World) :
    Calls Try.prog 29 #[.int .i64 x] w fun e w' => e = .returned (.slice (some ⟨w.heap.size, 0, none⟩) 2 2) ∧ w' = w.alloc (.cells (bv [x / 256, x % 256]).toArray 5) := by
  have hd : x / 256 ≤ 255 := by omega
  go_enter Try.func29, Try.ntmps29
  go_wp2_with fail
  go_ret
  exact ⟨rfl, rfl⟩

/-- A row of bytes, and how it came to be. -/
structure Grow (w1 : World) (v : Value) (n : Nat) (l : List Int) (w : World) : Prop where
  own : w.ownsRow w1.heap.size 5 1 v n (bv l)
  below : Below w1.heap.size w1 w
theorem Grow.alloc {w1 w : World} {v : Value} {n : Nat} {l : List Int} (h : Grow w1 v n l w) (o : Obj) : Grow w1 v n l (w.alloc o) := ⟨h.own.alloc o, h.below.alloc h.below.size o⟩
theorem Grow.drew {w1 w : World} {v : Value} {n : Nat} {l : List Int} (h : Grow w1 v n l w) : Grow w1 v n l w.drew := ⟨h.own, below_dr h.below⟩
theorem Grow.next {w1 w w' : World} {v v' : Value} {n m : Nat} {l k : List Int} (h : Grow w1 v n l w) (ho : w'.ownsRow w1.heap.size 5 1 v' (n + m) (bv l ++ bv k)) (hg : w.grownBy w' v.ownBlock) : Grow w1 v' (n + m) (l ++ k) w' :=
  ⟨by rw [bv_append]; exact ho, h.below.grown hg h.below.size (fun k hk => (h.own.lt k hk).1)⟩
theorem Grow.size {w1 w : World} {v : Value} {n : Nat} {l : List Int} (h : Grow w1 v n l w) : w1.heap.size ≤ w.heap.size := h.below.size
theorem Grow.lit (w : World) (l : List Int) (n : Nat) (hn : l.length = n) (h : n ≤ 1000) : Grow w (.slice (some ⟨w.heap.size, 0, none⟩) n n) n l (w.alloc (.cells (bv l).toArray 5)) :=
  ⟨World.ownsRow_lit w (bv l).toArray n (Nat.le_refl _) (by simp only [maxLen]; omega) (by simp [bv, hn]), (Below.refl _ _).alloc (Nat.le_refl _) _⟩

set_option maxRecDepth 100000 in
set_option maxHeartbeats 1000000 in
theorem header_any (h : Hd) (hh : h.small) (hr : rightB h = true) (all sum : Int) (ha : 0 ≤ all ∧ all ≤ 65535) (hs : 0 ≤ sum ∧ sum ≤ 65535) (A : Option Addr) (c : Nat) (w : World) (ho : Src w A h.opts.length c (bv h.opts)) :
    Calls Try.prog 27 #[.agg (hv h A c), .int .i64 all, .int .i64 sum] w fun e w' => ∃ A' c', e = .returned (.slice A' (20 + h.opts.length) c') ∧ w'.ownsRow w.heap.size 5 1 (.slice A' (20 + h.opts.length) c') (20 + h.opts.length) (bv (hdr h all sum)) ∧ Below w.heap.size w w' := by
  have hbd := right_bd hr
  have HC : Hid (∀ w', Below (w.alloc (.cells (hv h A c) 26)).heap.size (w.alloc (.cells (hv h A c) 26)) w' → ∀ j, w'.cell? ⟨w.heap.size, j, none⟩ = (hv h A c)[j]?) := Lib.hid (fun w' hb j => by
    rw [hb.cell (p := ⟨w.heap.size, j, none⟩) (by simp), cell_of_block (heap_alloc_at w _)])
  have HO := Lib.hid ho
  have HHD : Hid (hdr h all sum = hdr h all sum) := Lib.hid rfl
  obtain ⟨HDR, hHDR⟩ : ∃ l, hdr h all sum = l := ⟨_, rfl⟩
  rw [hHDR]
  have HHDR := Lib.hid hHDR
  clear hHDR HHD ho hr
  unfold hdr at HHDR
  obtain ⟨tos, id, flags, ttl, proto, s0, s1, s2, s3, d0, d1, d2, d3, opts⟩ := h
  simp only [hv] at *
  clear hh
  obtain ⟨b1', b2', b3', b4', b5', b6', b7'⟩ := hbd
  obtain ⟨w1, hw1⟩ : ∃ w1, w.alloc (.cells #[.int .i64 tos, .int .i64 id, .int .i64 flags, .int .i64 ttl, .int .i64 proto, .int .u8 s0, .int .u8 s1, .int .u8 s2, .int .u8 s3, .int .u8 d0, .int .u8 d1, .int .u8 d2, .int .u8 d3, .slice A opts.length c] 26) = w1 := ⟨_, rfl⟩
  have B1 : Hid (Below w.heap.size w w1) := Lib.hid (by rw [← hw1]; exact (Below.refl _ _).alloc (Nat.le_refl _) _)
  have hz : w.heap.size < w1.heap.size := by rw [← hw1]; simp
  rw [hw1] at HC
  have c0 := HC.out w1 (Below.refl _ _)
  have k0 := c0 0
  have k13 := c0 13
  simp only [List.getElem?_toArray] at k0 k13
  clear c0
  have HW1 := Lib.hid hw1
  have ho4 : (69 + (opts.length : Int) / 4) % 256 = 69 + (opts.length : Int) / 4 := by omega
  go_enter Try.func27, Try.ntmps27
  go_upto_region 1 with fail
  clear hw1
  go_upto_region 2 with fail
  have KP : Hid (∀ w', Below w1.heap.size w1 w' → w'.cell? ⟨w.heap.size, 1, none⟩ = some (.int .i64 id) ∧ w'.cell? ⟨w.heap.size, 2, none⟩ = some (.int .i64 flags)) := Lib.hid (fun w' hb => by
    have c0 := HC.out w' hb
    have k1 := c0 1
    have k2 := c0 2
    exact ⟨k1, k2⟩)
  have G0 := Lib.hid (Grow.lit w1 [69 + (opts.length : Int) / 4, tos] 2 rfl (by omega))
  clear k0 k13 ho4
  simp only [bv, List.map_cons, List.map_nil] at G0
  generalize w1.alloc (.cells _ 5) = w2 at *
  have c0 := HC.out _ G0.out.below
  have k1 := c0 1
  have k2 := c0 2
  simp only [List.getElem?_toArray] at k1 k2
  clear c0
  go_region_held3 (fun w' => w'.cell? ⟨w.heap.size, 1, none⟩ = some (.int .i64 id) ∧ w'.cell? ⟨w.heap.size, 2, none⟩ = some (.int .i64 flags)) (first | go_keep | exact KP.out _ GX.out.below)
    (first
      | (go_at_call 29; refine (two_any _ (by omega) (by omega) _).mono ?_; rintro e w' ⟨rfl, rfl⟩)
      | (refine step_append_any (by rfl) (.tmp 18) (.tmp 20) 24 (by rfl) w1.heap.size 5 (.int .u8 0) 1 1 Try.underlying24 info_u8 rfl (by decide) (by decide) (.slice (some ⟨w1.heap.size, 0, none⟩) 2 2) (2) (bv ([69 + (opts.length : Int) / 4, tos])) (by rfl) ((G0.out.alloc _).drew).own (some ⟨_, 0, none⟩) (2) (2) (bv ([all / 256, all % 256])) (by rfl) (src_drew (src_const _ [all / 256, all % 256] (0, 0) (by simp [maxLen]))) (by simp [bv]) (bv_one _) (by omega) ((G0.out.alloc _).drew).size ?_; intro v3 w3 ho0 hg0 _ _; have G1 : Hid (Grow w1 v3 4 [69 + (opts.length : Int) / 4, tos, all / 256, all % 256] w3) := Lib.hid (Grow.next (m := 2) (k := [all / 256, all % 256]) ((G0.out.alloc _).drew) ho0 hg0); have GX := G1; clear ho0 hg0)
      | (refine step_append_any (by rfl) (.tmp 21) (.tmp 24) 24 (by rfl) w1.heap.size 5 (.int .u8 0) 1 1 Try.underlying24 info_u8 rfl (by decide) (by decide) v3 (4) (bv ([69 + (opts.length : Int) / 4, tos, all / 256, all % 256])) (by rfl) (G1.out.alloc _).own (some ⟨_, 0, none⟩) (2) (2) (bv ([id / 256, id % 256])) (by rfl) (src_const _ [id / 256, id % 256] (0, 0) (by simp [maxLen])) (by simp [bv]) (bv_one _) (by omega) (G1.out.alloc _).size ?_; intro v4 w4 ho1 hg1 _ _; have G2 : Hid (Grow w1 v4 6 [69 + (opts.length : Int) / 4, tos, all / 256, all % 256, id / 256, id % 256] w4) := Lib.hid (Grow.next (m := 2) (k := [id / 256, id % 256]) (G1.out.alloc _) ho1 hg1); have GX := G2; clear ho1 hg1)
      | (refine step_append_any (by rfl) (.tmp 25) (.tmp 28) 24 (by rfl) w1.heap.size 5 (.int .u8 0) 1 1 Try.underlying24 info_u8 rfl (by decide) (by decide) v4 (6) (bv ([69 + (opts.length : Int) / 4, tos, all / 256, all % 256, id / 256, id % 256])) (by rfl) (G2.out.alloc _).own (some ⟨_, 0, none⟩) (2) (2) (bv ([flags / 256, flags % 256])) (by rfl) (src_const _ [flags / 256, flags % 256] (0, 0) (by simp [maxLen])) (by simp [bv]) (bv_one _) (by omega) (G2.out.alloc _).size ?_; intro v5 w5 ho2 hg2 _ _; have G3 : Hid (Grow w1 v5 8 [69 + (opts.length : Int) / 4, tos, all / 256, all % 256, id / 256, id % 256, flags / 256, flags % 256] w5) := Lib.hid (Grow.next (m := 2) (k := [flags / 256, flags % 256]) (G2.out.alloc _) ho2 hg2); have GX := G3; clear ho2 hg2))
  have c0 := HC.out _ G3.out.below
  have k3 := c0 3
  have k4 := c0 4
  simp only [List.getElem?_toArray] at k3 k4
  clear c0 G0 GX KP k1 k2
  go_wp2_with (at_builtin; refine wpList_append_any rfl (.tmp 30) (.tmp 37) 24 rfl w1.heap.size 5 (.int .u8 0) 1 1 Try.underlying24 info_u8 rfl (by decide) (by decide) v5 (8) (bv ([69 + (opts.length : Int) / 4, tos, all / 256, all % 256, id / 256, id % 256, flags / 256, flags % 256])) rfl (G3.out.alloc _).own (some ⟨_, 0, none⟩) (2) (2) (bv ([ttl, proto])) rfl (src_const _ [ttl, proto] (0, 0) (by simp [maxLen])) (by simp [bv]) (bv_one _) (by omega) (G3.out.alloc _).size ?_)
  intro v6 w6 ho hg _ _
  have G6 : Hid (Grow w1 v6 10 [69 + (opts.length : Int) / 4, tos, all / 256, all % 256, id / 256, id % 256, flags / 256, flags % 256, ttl, proto] w6) := Lib.hid (Grow.next (m := 2) (k := [ttl, proto]) (G3.out.alloc _) ho hg)
  clear ho hg G3 k3 k4
  go_wp2_with fail
  refine (two_any sum (by omega) (by omega) _).mono ?_
  rintro e w7 ⟨rfl, rfl⟩
  go_wp2_with (at_builtin; refine wpList_append_any rfl (.tmp 38) (.tmp 40) 24 rfl w1.heap.size 5 (.int .u8 0) 1 1 Try.underlying24 info_u8 rfl (by decide) (by decide) v6 (10) (bv ([69 + (opts.length : Int) / 4, tos, all / 256, all % 256, id / 256, id % 256, flags / 256, flags % 256, ttl, proto])) rfl (G6.out.alloc _).own (some ⟨_, 0, none⟩) (2) (2) (bv ([sum / 256, sum % 256])) rfl (src_const _ [sum / 256, sum % 256] (0, 0) (by simp [maxLen])) (by simp [bv]) (bv_one _) (by omega) (G6.out.alloc _).size ?_)
  intro v8 w8 ho hg _ _
  have G8 : Hid (Grow w1 v8 12 [69 + (opts.length : Int) / 4, tos, all / 256, all % 256, id / 256, id % 256, flags / 256, flags % 256, ttl, proto, sum / 256, sum % 256] w8) := Lib.hid (Grow.next (m := 2) (k := [sum / 256, sum % 256]) (G6.out.alloc _) ho hg)
  clear ho hg G6
  go_wp2_with fail
  have AR : Hid (∀ w', Below w1.heap.size w1 w' → Src w' (some ⟨w.heap.size, 5, none⟩) 4 4 (bv [s0, s1, s2, s3]) ∧ Src w' (some ⟨w.heap.size, 9, none⟩) 4 4 (bv [d0, d1, d2, d3])) := Lib.hid (fun w' hb => by
    have c0 := HC.out w' hb
    refine ⟨⟨(fun h => by cases h), Nat.le_refl _, by simp [maxLen], fun ad had j u hu => ?_⟩, ⟨(fun h => by cases h), Nat.le_refl _, by simp [maxLen], fun ad had j u hu => ?_⟩⟩
    all_goals
      injection had with had
      subst had
      rw [Addr.add_lit, c0, ← hu]
      have hj : j < 4 := by have := (List.getElem?_eq_some_iff.1 hu).1; simpa [bv] using this
      match j, hj with
      | 0, _ => rfl
      | 1, _ => rfl
      | 2, _ => rfl
      | 3, _ => rfl)
  go_region_held3 (fun w' => w1.heap.size ≤ w'.heap.size) (first | exact GX.out.size | exact G8.out.size)
    (first
      | (refine step_append_any (by rfl) (.tmp 42) (.tmp 44) 24 (by rfl) w1.heap.size 5 (.int .u8 0) 1 1 Try.underlying24 info_u8 rfl (by decide) (by decide) v8 (12) (bv ([69 + (opts.length : Int) / 4, tos, all / 256, all % 256, id / 256, id % 256, flags / 256, flags % 256, ttl, proto, sum / 256, sum % 256])) (by rfl) (G8.out.drew).own (some ⟨w.heap.size, 5, none⟩) (4) (4) (bv ([s0, s1, s2, s3])) (by rfl) ((AR.out _ G8.out.drew.below).1) (by simp [bv]) (bv_one _) (by omega) (G8.out.drew).size ?_; intro v9 w9 ho hg _ _; have G9 : Hid (Grow w1 v9 16 [69 + (opts.length : Int) / 4, tos, all / 256, all % 256, id / 256, id % 256, flags / 256, flags % 256, ttl, proto, sum / 256, sum % 256, s0, s1, s2, s3] w9) := Lib.hid (Grow.next (m := 4) (k := [s0, s1, s2, s3]) (G8.out.drew) ho hg); have GX := G9; clear ho hg)
      | (refine step_append_any (by rfl) (.tmp 45) (.tmp 47) 24 (by rfl) w1.heap.size 5 (.int .u8 0) 1 1 Try.underlying24 info_u8 rfl (by decide) (by decide) v9 (16) (bv ([69 + (opts.length : Int) / 4, tos, all / 256, all % 256, id / 256, id % 256, flags / 256, flags % 256, ttl, proto, sum / 256, sum % 256, s0, s1, s2, s3])) (by rfl) (G9.out).own (some ⟨w.heap.size, 9, none⟩) (4) (4) (bv ([d0, d1, d2, d3])) (by rfl) ((AR.out _ G9.out.below).2) (by simp [bv]) (bv_one _) (by omega) (G9.out).size ?_; intro v10 w10 ho hg _ _; have G10 : Hid (Grow w1 v10 20 [69 + (opts.length : Int) / 4, tos, all / 256, all % 256, id / 256, id % 256, flags / 256, flags % 256, ttl, proto, sum / 256, sum % 256, s0, s1, s2, s3, d0, d1, d2, d3] w10) := Lib.hid (Grow.next (m := 4) (k := [d0, d1, d2, d3]) (G9.out) ho hg); have GX := G10; clear ho hg))
  have c0 := HC.out _ G10.out.below
  have k13 := c0 13
  simp only [List.getElem?_toArray] at k13
  clear c0 G8 GX G9 AR
  go_wp2_with (at_builtin; refine wpList_append_any rfl (.tmp 49) (.tmp 51) 24 rfl w1.heap.size 5 (.int .u8 0) 1 1 Try.underlying24 info_u8 rfl (by decide) (by decide) v10 (20) (bv ([69 + (opts.length : Int) / 4, tos, all / 256, all % 256, id / 256, id % 256, flags / 256, flags % 256, ttl, proto, sum / 256, sum % 256, s0, s1, s2, s3, d0, d1, d2, d3])) rfl (G10.out).own (A) (opts.length) (c) (bv (opts)) rfl (HO.out.same fun ad had hne => (B1.out.trans (G10.out.below.mono B1.out.size)).block _ (HO.out.lt had hne)) (by simp [bv]) (bv_one _) (by omega) (G10.out).size ?_)
  intro v11 w11 ho hg _ _
  have G11 : Hid (Grow w1 v11 (20 + opts.length) ([69 + (opts.length : Int) / 4, tos, all / 256, all % 256, id / 256, id % 256, flags / 256, flags % 256, ttl, proto, sum / 256, sum % 256, s0, s1, s2, s3, d0, d1, d2, d3] ++ opts) w11) := Lib.hid (Grow.next (m := opts.length) (k := opts) G10.out ho hg)
  clear ho hg G10 k13
  have HE : Hid ([69 + (opts.length : Int) / 4, tos, all / 256, all % 256, id / 256, id % 256, flags / 256, flags % 256, ttl, proto, sum / 256, sum % 256, s0, s1, s2, s3, d0, d1, d2, d3] ++ opts = HDR) := Lib.hid (by rw [← HHDR.out, show 69 + (opts.length : Int) / 4 = 64 + (20 + (opts.length : Int)) / 4 by omega])
  have how := G11.out.own
  rw [HE.out] at how
  obtain ⟨A', c', rfl, -⟩ := own_form how
  have HW := Lib.hid how
  clear how
  go_wp2_with fail
  go_ret
  exact ⟨A', c', rfl, own_base HW.out B1.out.size, B1.out.trans (G11.out.below.mono B1.out.size)⟩
end Go.Proofs.Ytjembpchgemhnaa.Head
