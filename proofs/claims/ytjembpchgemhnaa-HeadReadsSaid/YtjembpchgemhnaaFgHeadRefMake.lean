/- Contract of the document's Make. Conditions: none beyond each lemma's own hypotheses. -/
import Derived.Test.YtjembpchgemhnaaFgHeadRef
set_option linter.unusedVariables false
set_option linter.unusedSimpArgs false
namespace Go.Proofs.Ytjembpchgemhnaa.Head
open Go.RowKit Go.Proofs.Ytjembpchgemhnaa.Fg

theorem hdr_small {h : Hd} (hh : h.small) (hr : rightB h = true) (all sum : Int) (ha : 0 ≤ all ∧ all ≤ 65535) (hs : 0 ≤ sum ∧ sum ≤ 65535) : Small (hdr h all sum) := by
  have hb := right_bd hr
  refine Small.append ?_ hh.1
  intro x hx
  have h2 := hh.2
  have e0 := h2 h.s0 (by simp); have e1 := h2 h.s1 (by simp); have e2 := h2 h.s2 (by simp); have e3 := h2 h.s3 (by simp)
  have e4 := h2 h.d0 (by simp); have e5 := h2 h.d1 (by simp); have e6 := h2 h.d2 (by simp); have e7 := h2 h.d3 (by simp)
  simp only [List.mem_cons, List.not_mem_nil, or_false] at hx
  omega
theorem hdr_length (h : Hd) (all sum : Int) : (hdr h all sum).length = 20 + h.opts.length := by simp [hdr]; omega

set_option maxRecDepth 100000 in
set_option maxHeartbeats 1000000 in
theorem refmake_any (h : Hd) (hh : h.small) (A : Option Addr) (c : Nat) (p : List Int) (hp : Small p) (A2 : Option Addr) (c2 : Nat) (w : World) (ho : Src w A h.opts.length c (bv h.opts)) (hpl : Src w A2 p.length c2 (bv p))
    (hn : h.opts.length ≤ 140737488355328) (hn2 : p.length ≤ 140737488355328) :
    Calls Try.prog 16 #[.agg (hv h A c), .slice A2 p.length c2] w (MakeMade h p w) := by
  have HP := Lib.hid hp
  have HO := Lib.hid ho
  have HL := Lib.hid hpl
  have HR := Lib.hid (fun w' => refright_any h A c w' hn)
  have HC : Hid (∀ w', Below (w.alloc (.cells (hv h A c) 26)).heap.size (w.alloc (.cells (hv h A c) 26)) w' → ∀ j, w'.cell? ⟨w.heap.size, j, none⟩ = (hv h A c)[j]?) := Lib.hid (fun w' hb j => by
    rw [hb.cell (p := ⟨w.heap.size, j, none⟩) (by simp), cell_of_block (heap_alloc_at w _)])
  have YES := Lib.hid (fun w' A' n c' => @MakeMade.yes h p w w' A' n c')
  have NO := Lib.hid (fun w' => @MakeMade.no h p w w')
  have HDR := Lib.hid (fun hr all sum ha hs w' ho => header_any h hh hr all sum ha hs A c w' ho)
  have HSML := Lib.hid (fun hr all sum ha hs => @hdr_small h hh hr all sum ha hs)
  have HDL := Lib.hid (fun all sum => hdr_length h all sum)
  have hmk : makes h p = (rightB h && decide (20 + h.opts.length + p.length ≤ 1500)) := rfl
  have HBD := Lib.hid (fun hr => @right_bd h hr)
  have HPK : Hid (packet h p = hdr h (20 + h.opts.length + p.length) (sumH (hdr h (20 + h.opts.length + p.length) 0)) ++ p) := Lib.hid rfl
  generalize packet h p = PK at *
  clear hp ho hpl
  generalize hb0 : rightB h = b0 at *
  generalize hb1 : makes h p = b1 at *
  obtain ⟨H, hH⟩ : ∃ H, hdr h = H := ⟨_, rfl⟩
  rw [hH] at HPK HDR HSML HDL
  clear hH hh
  obtain ⟨tos, id, flags, ttl, proto, s0, s1, s2, s3, d0, d1, d2, d3, opts⟩ := h
  simp only [hv] at *
  have HMK := Lib.hid hmk
  clear hb0 hb1 hmk
  cases b0
  · have h1 : b1 = false := HMK.out
    subst h1
    go_enter Try.func16, Try.ntmps16
    go_wp2_with fail
    refine (HR.out _).mono ?_
    rintro e w1 ⟨rfl, hb⟩
    have HB := Lib.hid hb
    clear hb
    go_wp2_with fail
    exact bodyPost_ret (v := .tuple #[.slice none 0 0, .int .i64 55]) (by simp [results, Try.results16, go_sem]) rfl (NO.out _ (by first | rfl | trivial) (((Below.refl _ _).alloc (Nat.le_refl _) _).trans (HB.out.mono (by simp))))
  · have hbd := HBD.out rfl
    obtain ⟨b1', b2', b3', b4', b5', b6', b7'⟩ := hbd
    by_cases hsz : 20 + opts.length + p.length ≤ 1500
    · have h1 : b1 = true := by rw [HMK.out]; simpa using hsz
      subst h1
      have hg : ¬ (1480 - (opts.length : Int) < (p.length : Int)) := by omega
      go_enter Try.func16, Try.ntmps16
      go_wp2_with fail
      refine (HR.out _).mono ?_
      rintro e w1 ⟨rfl, hb⟩
      have hz1 := hb.size
      have HB := Lib.hid hb
      have BW1 : Hid (Below w.heap.size w w1) := Lib.hid (((Below.refl _ _).alloc (Nat.le_refl _) _).trans (hb.mono (by simp)))
      have hww : w.heap.size < w1.heap.size := by simp at hz1; omega
      have CELLS : Hid (∀ w', Below w1.heap.size w1 w' → w'.cell? ⟨w.heap.size, 0, none⟩ = some (.int .i64 tos) ∧ w'.cell? ⟨w.heap.size, 1, none⟩ = some (.int .i64 id) ∧ w'.cell? ⟨w.heap.size, 2, none⟩ = some (.int .i64 flags) ∧ w'.cell? ⟨w.heap.size, 3, none⟩ = some (.int .i64 ttl) ∧ w'.cell? ⟨w.heap.size, 4, none⟩ = some (.int .i64 proto) ∧ w'.cell? ⟨w.heap.size, 5, none⟩ = some (.int .u8 s0) ∧ w'.cell? ⟨w.heap.size, 6, none⟩ = some (.int .u8 s1) ∧ w'.cell? ⟨w.heap.size, 7, none⟩ = some (.int .u8 s2) ∧ w'.cell? ⟨w.heap.size, 8, none⟩ = some (.int .u8 s3) ∧ w'.cell? ⟨w.heap.size, 9, none⟩ = some (.int .u8 d0) ∧ w'.cell? ⟨w.heap.size, 10, none⟩ = some (.int .u8 d1) ∧ w'.cell? ⟨w.heap.size, 11, none⟩ = some (.int .u8 d2) ∧ w'.cell? ⟨w.heap.size, 12, none⟩ = some (.int .u8 d3) ∧ w'.cell? ⟨w.heap.size, 13, none⟩ = some (.slice A opts.length c)) := Lib.hid (fun w' hb' => by
        have c0 := HC.out w' (HB.out.trans (hb'.mono HB.out.size))
        exact ⟨c0 0, c0 1, c0 2, c0 3, c0 4, c0 5, c0 6, c0 7, c0 8, c0 9, c0 10, c0 11, c0 12, c0 13⟩)
      obtain ⟨k0, k1, k2, k3, k4, k5, k6, k7, k8, k9, k10, k11, k12, k13⟩ := CELLS.out w1 (Below.refl _ _)
      clear hb hz1 NO HMK HBD HR HC
      obtain ⟨n, hn0⟩ : ∃ n : Int, 20 + (opts.length : Int) + (p.length : Int) = n := ⟨_, rfl⟩
      have HN := Lib.hid hn0
      have hn1 : 0 ≤ n ∧ n ≤ 65535 := by omega
      have hzz : (0 : Int) ≤ 0 ∧ (0 : Int) ≤ 65535 := by omega
      have HD2 : Hid (∀ s, 0 ≤ s ∧ s ≤ 65535 → ∀ w', Below w1.heap.size w1 w' → Calls Try.prog 27 #[.agg #[.int .i64 tos, .int .i64 id, .int .i64 flags, .int .i64 ttl, .int .i64 proto, .int .u8 s0, .int .u8 s1, .int .u8 s2, .int .u8 s3, .int .u8 d0, .int .u8 d1, .int .u8 d2, .int .u8 d3, .slice A opts.length c], .int .i64 n, .int .i64 s] w' fun e w2 => ∃ v, e = .returned v ∧ w2.ownsRow w'.heap.size 5 1 v (20 + opts.length) (bv (H n s)) ∧ Below w'.heap.size w' w2) :=
        Lib.hid (fun s hs w' hb => (HDR.out (by first | rfl | trivial) n s hn1 hs w' (HO.out.same fun ad had hne => (BW1.out.trans (hb.mono BW1.out.size)).block _ (HO.out.lt had hne))).mono fun e w2 ⟨A', c', h1, h2, h3⟩ => ⟨_, h1, h2, h3⟩)
      have SM := Lib.hid (HSML.out (by first | rfl | trivial) n 0 hn1 hzz)
      have SUM : Hid (∀ A' c' w', Src w' A' (20 + opts.length) c' (bv (H n 0)) → Calls Try.prog 15 #[.slice A' (20 + opts.length) c'] w' fun e w2 => e = .returned (.int .i64 (sumH (H n 0))) ∧ w2 = w') := Lib.hid (fun A' c' w' hs => by
        have := refsum_any (H n 0) SM.out (by rw [HDL.out]; omega) A' c' w' (by rw [HDL.out]; exact hs)
        rw [HDL.out] at this
        exact this)
      have hsb := sumH_bd (H n 0)
      rw [hn0] at HPK
      generalize sumH (H n 0) = sm at *
      go_upto_region 4 with fail
      clear hn0 HDR SM
      go_region_held3 (fun w' => w'.cell? ⟨w.heap.size, 0, none⟩ = some (.int .i64 tos) ∧ w'.cell? ⟨w.heap.size, 1, none⟩ = some (.int .i64 id) ∧ w'.cell? ⟨w.heap.size, 2, none⟩ = some (.int .i64 flags) ∧ w'.cell? ⟨w.heap.size, 3, none⟩ = some (.int .i64 ttl) ∧ w'.cell? ⟨w.heap.size, 4, none⟩ = some (.int .i64 proto) ∧ w'.cell? ⟨w.heap.size, 5, none⟩ = some (.int .u8 s0) ∧ w'.cell? ⟨w.heap.size, 6, none⟩ = some (.int .u8 s1) ∧ w'.cell? ⟨w.heap.size, 7, none⟩ = some (.int .u8 s2) ∧ w'.cell? ⟨w.heap.size, 8, none⟩ = some (.int .u8 s3) ∧ w'.cell? ⟨w.heap.size, 9, none⟩ = some (.int .u8 d0) ∧ w'.cell? ⟨w.heap.size, 10, none⟩ = some (.int .u8 d1) ∧ w'.cell? ⟨w.heap.size, 11, none⟩ = some (.int .u8 d2) ∧ w'.cell? ⟨w.heap.size, 12, none⟩ = some (.int .u8 d3) ∧ w'.cell? ⟨w.heap.size, 13, none⟩ = some (.slice A opts.length c)) (first | exact CELLS.out _ (below_dr (Below.refl _ _)) | exact CELLS.out _ HX.out)
        (first
          | (go_at_call_of 27 (Value.int IntKind.i64 0); refine (HD2.out 0 hzz _ (below_dr (Below.refl _ _))).mono ?_; rintro e w3 ⟨v3, rfl, ho3, hb3⟩; obtain ⟨A3, c3, rfl, -⟩ := own_form ho3; have HX : Hid (Below w1.heap.size w1 w3) := Lib.hid ((below_dr (Below.refl _ _)).trans hb3); have HO3 := Lib.hid ho3; clear ho3 hb3)
          | (go_at_call 15; refine (SUM.out A3 c3 _ (Src.of_own HO3.out)).mono ?_; rintro e w4 ⟨rfl, rfl⟩)
          | (go_at_call_of 27 (Value.int IntKind.i64 sm); refine (HD2.out sm hsb _ HX.out).mono ?_; rintro e w5 ⟨v5, rfl, ho5, hb5⟩; have HO5 := Lib.hid (own_base ho5 HX.out.size); have HX5 : Hid (Below w1.heap.size w1 w5) := Lib.hid (HX.out.trans (hb5.mono HX.out.size)); have HX := HX5; clear ho5 hb5)
          | (refine step_append_any (by rfl) (.tmp 32) (.tmp 33) 24 (by rfl) w1.heap.size 5 (.int .u8 0) 1 1 Try.underlying24 info_u8 rfl (by decide) (by decide) v5 (20 + opts.length) (bv (H n sm)) (by rfl) HO5.out A2 p.length c2 (bv p) (by rfl) (HL.out.same fun ad had hne => (BW1.out.trans (HX.out.mono BW1.out.size)).block _ (HL.out.lt had hne)) (by simp [bv]) (bv_one _) (by omega) HX.out.size ?_; intro v6 w6 ho hg' _ _; have HX6 : Hid (Below w1.heap.size w1 w6) := Lib.hid (HX.out.grown hg' HX.out.size (fun k hk => (HO5.out.lt k hk).1)); have HX := HX6; have HO6 := Lib.hid ho; clear ho hg')
          | fail)
      have HE : Hid (bv (H n sm) ++ bv p = bv PK) := Lib.hid (by rw [HPK.out, bv_append])
      have HLN : Hid (PK.length = 20 + opts.length + p.length) := Lib.hid (by rw [HPK.out, List.length_append, HDL.out])
      have how := HO6.out
      rw [HE.out] at how
      obtain ⟨A7, c7, rfl, -⟩ := own_form how
      have HO7 := Lib.hid how
      clear how
      go_wp2_with fail
      exact bodyPost_ret (v := .tuple #[.slice A7 (20 + opts.length + p.length) c7, .int .i64 0]) (by simp [results, Try.results16, go_sem]) rfl
        (YES.out _ A7 _ c7 (by first | rfl | trivial) HLN.out (own_base HO7.out BW1.out.size) (BW1.out.trans (HX.out.mono BW1.out.size)))
    · have h1 : b1 = false := by rw [HMK.out]; simpa using hsz
      subst h1
      have hg : (1480 - (opts.length : Int) < (p.length : Int)) := by omega
      go_enter Try.func16, Try.ntmps16
      go_wp2_with fail
      refine (HR.out _).mono ?_
      rintro e w1 ⟨rfl, hb⟩
      have HB := Lib.hid hb
      have hc13 := HC.out _ hb 13
      simp only [List.getElem?_toArray] at hc13
      clear hb
      go_wp2_with fail
      exact bodyPost_ret (v := .tuple #[.slice none 0 0, .int .i64 55]) (by simp [results, Try.results16, go_sem]) rfl (NO.out _ (by first | rfl | trivial) (((Below.refl _ _).alloc (Nat.le_refl _) _).trans (HB.out.mono (by simp))))
end Go.Proofs.Ytjembpchgemhnaa.Head
