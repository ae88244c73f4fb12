/- Contract of head's Make. Conditions: none beyond each lemma's own hypotheses. -/
import Derived.Test.YtjembpchgemhnaaFgHeadRight2
import Derived.Test.YtjembpchgemhnaaFgOwn
import Derived.Test.YtjembpchgemhnaaFgWords
import Derived.Laws.MakeOwn
import Derived.Deep.DeepCutAuto
import Derived.Deep.CutBlock
set_option linter.unusedVariables false
set_option linter.unusedSimpArgs false
namespace Go.Proofs.Ytjembpchgemhnaa.Head
open Go.RowKit Go.Proofs.Ytjembpchgemhnaa.Fg

/-- A header's bytes. -/
def hdr (h : Hd) (all sum : Int) : List Int := [64 + (20 + (h.opts.length : Int)) / 4, h.tos, all / 256, all % 256, h.id / 256, h.id % 256, h.flags / 256, h.flags % 256, h.ttl, h.proto, sum / 256, sum % 256, h.s0, h.s1, h.s2, h.s3, h.d0, h.d1, h.d2, h.d3] ++ h.opts
/-- A packet. -/
def packet (h : Hd) (p : List Int) : List Int := hdr h (20 + h.opts.length + p.length) (sumH (hdr h (20 + h.opts.length + p.length) 0)) ++ p
/-- A header whose bytes are bytes. -/
def Hd.small (h : Hd) : Prop := Small h.opts ∧ Small [h.s0, h.s1, h.s2, h.s3, h.d0, h.d1, h.d2, h.d3]
def makes (h : Hd) (p : List Int) : Bool := rightB h && decide (20 + h.opts.length + p.length ≤ 1500)
theorem right_bd {h : Hd} (hr : rightB h = true) : (0 ≤ h.tos ∧ h.tos ≤ 255) ∧ (0 ≤ h.ttl ∧ h.ttl ≤ 255) ∧ (0 ≤ h.proto ∧ h.proto ≤ 255) ∧ (0 ≤ h.id ∧ h.id ≤ 65535) ∧ (0 ≤ h.flags ∧ h.flags ≤ 65535) ∧ h.opts.length ≤ 40 ∧ h.opts.length % 4 = 0 := by
  simp [rightB, bad] at hr
  omega
/-- What a Make leaves. -/
def MakeMade (h : Hd) (p : List Int) (w : World) (e : Ending) (w' : World) : Prop :=
  ∃ A c, e = .returned (.tuple #[.slice A (if makes h p then (packet h p).length else 0) c, .int .i64 (if makes h p then 0 else 55)]) ∧
    w'.ownsRow w.heap.size 5 1 (.slice A (if makes h p then (packet h p).length else 0) c) (if makes h p then (packet h p).length else 0) (bv (if makes h p then packet h p else [])) ∧ Below w.heap.size w w'
theorem MakeMade.no {h : Hd} {p : List Int} {w w' : World} (hm : makes h p = false) (hb : Below w.heap.size w w') : MakeMade h p w (.returned (.tuple #[.slice none 0 0, .int .i64 55])) w' := by
  refine ⟨none, 0, ?_, ?_, hb⟩
  · simp [hm]
  · simp [hm]; exact World.ownsRow_nil _ _ _ _
theorem MakeMade.yes {h : Hd} {p : List Int} {w w' : World} {A : Option Addr} {n c : Nat} (hm : makes h p = true) (hn : (packet h p).length = n) (ho : w'.ownsRow w.heap.size 5 1 (.slice A n c) n (bv (packet h p))) (hb : Below w.heap.size w w') :
    MakeMade h p w (.returned (.tuple #[.slice A n c, .int .i64 0])) w' := by
  refine ⟨A, c, ?_, ?_, hb⟩
  · simp [hm, hn]
  · simp [hm, hn]; exact ho

theorem make_bytes (n c : Nat) (hn : n ≤ c) (hc : c ≤ 1000000) (u : World) : (Instr.makeSlice 24 (.int .i64 n) (.int .i64 c)).run Try.prog u =
    .ok (.slice (some ⟨u.heap.size, 0, none⟩) n c) (u.alloc (.cells (madeCells #[.int .u8 0] c) 5)) := by
  obtain ⟨i0, hi, hz0, hz1, hz2⟩ := info_parts info_u8
  have h := run_make (P := Try.prog) u 24 5 i0 (.int .u8 0) Try.underlying24 hi hz0 .i64 .i64 n c (by omega) (by omega) (by rw [hz2]; omega) (by omega)
  have e : (n : Int).toNat = n := by omega
  have e2 : (c : Int).toNat = c := by omega
  rw [e, e2] at h
  simpa [hz1, Value.cells] using h
theorem make_row (n c : Nat) (hn : n ≤ c) (hc : c ≤ 1000000) (u : World) : Row (u.alloc (.cells (madeCells #[.int .u8 0] c) 5)) u.heap.size u.heap.size n c (List.replicate n 0) := by
  refine ⟨by simp [bv], .inr ⟨_, c, _, rfl, Nat.le_refl _, heap_alloc_at u _, hn, by simp only [maxLen]; omega, by simp [madeCells], ?_⟩⟩
  rw [toList_madeCells_one, Nat.mul_one, List.take_replicate, Nat.min_eq_left hn]
  simp [bv]

theorem set_row {w : World} {base g n c : Nat} {l : List Int} (h : Row w base g n c l) (j : Nat) (z : Int) (hz : z = j) (hj : j + 1 < n) (hn : n ≤ 100000) (x : Int) (h0 : 0 ≤ x) (h1 : x ≤ 65535) :
    Calls Try.prog 25 #[.slice (some ⟨g, 0, none⟩) n c, .int .i64 z, .int .i64 x] w fun e w' => e = .returned (.tuple #[]) ∧ Row w' base g n c ((l.set j (x / 256)).set (j + 1) (x % 256)) ∧ (∀ B w0, Below B w0 w → B ≤ g → Below B w0 w') ∧ w'.heap.size = w.heap.size := by
  subst hz
  have hl := h.len
  refine (set_any g n c j x w hj hn h0 h1 _ _ (h.cell j (by omega)) (h.cell (j + 1) (by omega)) (h.free j) (h.free (j + 1))).mono ?_
  rintro e w' ⟨rfl, rfl⟩
  exact ⟨rfl, (h.store j _).store (j + 1) _, fun B w0 hb hB => (hb.setCell hB _).setCell hB _, by simp⟩

set_option maxRecDepth 100000 in
set_option maxHeartbeats 1000000 in
theorem make_any (h : Hd) (hh : h.small) (A : Option Addr) (c : Nat) (p : List Int) (hp : Small p) (A2 : Option Addr) (c2 : Nat) (w : World) (ho : Src w A h.opts.length c (bv h.opts)) (hpl : Src w A2 p.length c2 (bv p))
    (hn : h.opts.length ≤ 140737488355328) (hn2 : p.length ≤ 140737488355328) :
    Calls Try.prog 12 #[.agg (hv h A c), .slice A2 p.length c2] w (MakeMade h p w) := by
  have HP := Lib.hid hp
  have HO := Lib.hid ho
  have HL := Lib.hid hpl
  have HR := Lib.hid (fun w' => right_any h A c w' hn)
  have HC : Hid (∀ w', Below (w.alloc (.cells (hv h A c) 26)).heap.size (w.alloc (.cells (hv h A c) 26)) w' → ∀ j, w'.cell? ⟨w.heap.size, j, none⟩ = (hv h A c)[j]?) := Lib.hid (fun w' hb j => by
    rw [hb.cell (p := ⟨w.heap.size, j, none⟩) (by simp), cell_of_block (heap_alloc_at w _)])
  have YES := Lib.hid (fun w' A' n c' => @MakeMade.yes h p w w' A' n c')
  have NO := Lib.hid (fun w' => @MakeMade.no h p w w')
  have hsm := hh
  have hmk : makes h p = (rightB h && decide (20 + h.opts.length + p.length ≤ 1500)) := rfl
  have HBD := Lib.hid (fun hr => @right_bd h hr)
  obtain ⟨PK, hPK⟩ : ∃ l, packet h p = l := ⟨_, rfl⟩
  have HPK := Lib.hid hPK
  have HLN' := Lib.hid hPK
  clear hp ho hpl hh hPK
  generalize hb0 : rightB h = b0 at *
  generalize hb1 : makes h p = b1 at *
  unfold packet hdr at HPK
  obtain ⟨tos, id, flags, ttl, proto, s0, s1, s2, s3, d0, d1, d2, d3, opts⟩ := h
  simp only [hv] at *
  have HS := Lib.hid hsm
  have HMK := Lib.hid hmk
  clear hsm hb0 hb1 hmk
  cases b0
  · have h1 : b1 = false := HMK.out
    subst h1
    go_enter Try.func12, Try.ntmps12
    go_wp2_with fail
    refine (HR.out _).mono ?_
    rintro e w1 ⟨rfl, hb⟩
    have HB := Lib.hid hb
    clear hb
    go_wp2_with fail
    exact bodyPost_ret (v := .tuple #[.slice none 0 0, .int .i64 55]) (by simp [results, Try.results12, go_sem]) rfl (NO.out _ (by first | rfl | trivial) (((Below.refl _ _).alloc (Nat.le_refl _) _).trans (HB.out.mono (by simp))))
  · have hbd := HBD.out rfl
    obtain ⟨b1', b2', b3', b4', b5', b6', b7'⟩ := hbd
    by_cases hsz : 20 + opts.length + p.length ≤ 1500
    · have h1 : b1 = true := by rw [HMK.out]; simpa using hsz
      subst h1
      have hg : ¬ (1480 - (opts.length : Int) < (p.length : Int)) := by omega
      go_enter Try.func12, Try.ntmps12
      go_wp2_with fail
      refine (HR.out _).mono ?_
      rintro e w1 ⟨rfl, hb⟩
      have hz1 := hb.size
      have HB := Lib.hid hb
      have hc13 := HC.out _ hb 13
      simp only [List.getElem?_toArray] at hc13
      have BW1 : Hid (Below w.heap.size w w1) := Lib.hid (((Below.refl _ _).alloc (Nat.le_refl _) _).trans (hb.mono (by simp)))
      have hww : w.heap.size < w1.heap.size := by simp at hz1; omega
      clear hb hz1 NO HMK HBD HR
      obtain ⟨n, hn0⟩ : ∃ n, 20 + opts.length + p.length = n := ⟨_, rfl⟩
      have hmk := make_bytes 20 n (by omega) (by omega) w1
      have r0 := make_row 20 n (by omega) (by omega) w1
      have ecn : (n : Int) = 20 + (opts.length : Int) + (p.length : Int) := by omega
      rw [ecn, show ((20 : Nat) : Int) = 20 from rfl] at hmk
      have hn1500 : n ≤ 1500 := by omega
      have hn20 : 20 + opts.length ≤ n := by omega
      have HN := Lib.hid hn0
      have ECN := Lib.hid ecn
      have R0 := Lib.hid r0
      clear hn0 ecn r0
      have B2 : Hid (Below w1.heap.size w1 (w1.alloc (.cells (madeCells #[.int .u8 0] n) 5))) := Lib.hid ((Below.refl _ _).alloc (Nat.le_refl _) _)
      have hc2 := HC.out _ (HB.out.trans (B2.out.mono (by simp; omega))) 13
      simp only [List.getElem?_toArray] at hc2
      go_upto_region 4 with fail
      clear hmk
      generalize hw2 : w1.alloc (.cells (madeCells #[.int .u8 0] n) 5) = w2 at *
      clear hw2
      go_wp2_with (at_builtin; refine wpList_append_any rfl (.tmp 28) (.tmp 30) 24 rfl w1.heap.size 5 (.int .u8 0) 1 1 Try.underlying24 info_u8 rfl (by decide) (by decide) (.slice (some ⟨w1.heap.size, 0, none⟩) 20 n) 20 (bv (List.replicate 20 0)) rfl R0.out A opts.length c (bv opts) rfl ?a2 ?a3 (bv_one opts) ?a5 ?a6 ?a7)
      case a2 => exact HO.out.same fun ad had hne => ((BW1.out.trans (B2.out.mono BW1.out.size)).block _ (HO.out.lt had hne))
      case a3 => simp [bv]
      case a5 => omega
      case a6 => exact B2.out.size
      intro v3 w3 hown3 hgr3 _ _
      obtain ⟨g3, c3, rfl, hr3⟩ := row_of_own (l := List.replicate 20 0 ++ opts) (by rw [bv_append]; exact hown3) (by omega)
      have R3 := Lib.hid hr3
      have B3 : Hid (Below w1.heap.size w1 w3) := Lib.hid (B2.out.grown hgr3 B2.out.size (fun k hk => (World.ownsRow.lt R0.out k hk).1))
      clear hown3 hgr3 hr3 B2 R0 hc2
      go_wp2_with (at_builtin; refine wpList_append_any rfl (.tmp 31) (.tmp 32) 24 rfl w1.heap.size 5 (.int .u8 0) 1 1 Try.underlying24 info_u8 rfl (by decide) (by decide) (.slice (some ⟨g3, 0, none⟩) (20 + opts.length) c3) (20 + opts.length) (bv (List.replicate 20 0 ++ opts)) rfl R3.out A2 p.length c2 (bv p) rfl ?b2 ?b3 (bv_one p) ?b5 ?b6 ?b7)
      case b2 => exact HL.out.same fun ad had hne => ((BW1.out.trans (B3.out.mono BW1.out.size)).block _ (HL.out.lt had hne))
      case b3 => simp [bv]
      case b5 => omega
      case b6 => exact B3.out.size
      intro v4 w4 hown4 hgr4 _ _
      rw [HN.out] at hown4
      obtain ⟨g, c4, rfl, hr4⟩ := row_of_own (l := List.replicate 20 0 ++ opts ++ p) (by rw [bv_append (List.replicate 20 0 ++ opts)]; exact hown4) (by omega)
      have R4 : Hid (Row w4 w1.heap.size g n c4 ([0, 0, 0, 0, 0, 0, 0, 0, 0, 0, 0, 0, 0, 0, 0, 0, 0, 0, 0, 0] ++ (opts ++ p))) := Lib.hid (by rw [List.append_assoc] at hr4; exact hr4)
      have B4 : Hid (Below w1.heap.size w1 w4) := Lib.hid (B3.out.grown hgr4 B3.out.size (fun k hk => (World.ownsRow.lt R3.out k hk).1))
      have hg4 := hr4.base_le
      clear hown4 hgr4 hr4 B3 R3
      have ho4 : bits .or .i64 64 ((20 + (opts.length : Int)) / 4) = 64 + (20 + (opts.length : Int)) / 4 := or_i64_64 _ (by omega) (by omega)
      have ho5 : (64 + (20 + (opts.length : Int)) / 4) % 256 = 64 + (20 + (opts.length : Int)) / 4 := by omega
      have q0 := R4.out.cell 0 (by simp)
      have f0 := R4.out.free 0
      have hn0 : 0 < n := by omega
      have hnc : n ≤ c4 := R4.out.src.cap
      have hc20 : 20 + opts.length ≤ c4 := by omega
      have hc20' : (20 : Int) + (opts.length : Int) ≤ (c4 : Int) := by omega
      have k13 := HC.out _ (HB.out.trans (B4.out.mono HB.out.size)) 13
      simp only [List.getElem?_toArray] at k13
      go_upto_region 7 with fail
      clear ho4 ho5 q0 f0 k13
      have R5 := Lib.hid (R4.out.store 0 (64 + (20 + (opts.length : Int)) / 4))
      have B5 := Lib.hid (B4.out.setCell (p := ⟨g, 0, none⟩) hg4.1 (.int .u8 (64 + (20 + (opts.length : Int)) / 4)))
      have hg5 : g < (w4.setCell ⟨g, 0, none⟩ (.int .u8 (64 + (20 + (opts.length : Int)) / 4))).heap.size := by simpa using hg4.2
      generalize w4.setCell ⟨g, 0, none⟩ (.int .u8 (64 + (20 + (opts.length : Int)) / 4)) = w5 at *
      clear R4 B4
      have r5 : Row w5 w1.heap.size g n c4 ([64 + (20 + (opts.length : Int)) / 4, 0, 0, 0, 0, 0, 0, 0, 0, 0, 0, 0, 0, 0, 0, 0, 0, 0, 0, 0] ++ (opts ++ p)) := R5.out
      have q1 := r5.cell 1 (by simp)
      have q8 := r5.cell 8 (by simp)
      have q9 := r5.cell 9 (by simp)
      have f1 := r5.free 1
      have f8 := r5.free 8
      have f9 := r5.free 9
      have l1 : 1 < n := by omega
      have l8 : 8 < n := by omega
      have l9 : 9 < n := by omega
      have k0 := HC.out _ (HB.out.trans (B5.out.mono HB.out.size)) 0
      simp only [List.getElem?_toArray] at k0
      have k3 := HC.out _ (HB.out.trans (B5.out.mono HB.out.size)) 3
      simp only [List.getElem?_toArray] at k3
      have k4 := HC.out _ (HB.out.trans (B5.out.mono HB.out.size)) 4
      simp only [List.getElem?_toArray] at k4
      clear r5
      go_upto_region 8 with fail
      have R6 : Hid (Row (((w5.setCell ⟨g, 1, none⟩ (.int .u8 tos)).setCell ⟨g, 8, none⟩ (.int .u8 ttl)).setCell ⟨g, 9, none⟩ (.int .u8 proto)) w1.heap.size g n c4 ([64 + (20 + (opts.length : Int)) / 4, tos, 0, 0, 0, 0, 0, 0, ttl, proto, 0, 0, 0, 0, 0, 0, 0, 0, 0, 0] ++ (opts ++ p))) := Lib.hid (((R5.out.store 1 tos).store 8 ttl).store 9 proto)
      have B6 := Lib.hid (((B5.out.setCell (p := ⟨g, 1, none⟩) hg4.1 (.int .u8 tos)).setCell (p := ⟨g, 8, none⟩) hg4.1 (.int .u8 ttl)).setCell (p := ⟨g, 9, none⟩) hg4.1 (.int .u8 proto))
      have hg6 : g < (((w5.setCell ⟨g, 1, none⟩ (.int .u8 tos)).setCell ⟨g, 8, none⟩ (.int .u8 ttl)).setCell ⟨g, 9, none⟩ (.int .u8 proto)).heap.size := by simpa using hg5
      clear q1 q8 q9 f1 f8 f9 k0 k3 k4 R5 B5 l1 l8 l9
      generalize ((w5.setCell ⟨g, 1, none⟩ (.int .u8 tos)).setCell ⟨g, 8, none⟩ (.int .u8 ttl)).setCell ⟨g, 9, none⟩ (.int .u8 proto) = w6 at *
      go_wp2_with fail
      refine (set_row R6.out 2 2 rfl (by omega) (by omega) n (by omega) (by omega)).mono ?_
      rintro e w7 ⟨rfl, hr, hb, hz⟩
      have R7 : Hid (Row w7 w1.heap.size g n c4 ([64 + (20 + (opts.length : Int)) / 4, tos, (n : Int) / 256, (n : Int) % 256, 0, 0, 0, 0, ttl, proto, 0, 0, 0, 0, 0, 0, 0, 0, 0, 0] ++ (opts ++ p))) := Lib.hid hr
      have B7 := Lib.hid (hb _ _ B6.out hg4.1)
      have hg7 : g < w7.heap.size := by omega
      clear hr hb hz R6 B6
      have k1 := HC.out _ (HB.out.trans (B7.out.mono HB.out.size)) 1
      simp only [List.getElem?_toArray] at k1
      go_wp2_with fail
      clear k1
      refine (set_row R7.out 4 4 rfl (by omega) (by omega) id (by omega) (by omega)).mono ?_
      rintro e w8 ⟨rfl, hr, hb, hz⟩
      have R8 : Hid (Row w8 w1.heap.size g n c4 ([64 + (20 + (opts.length : Int)) / 4, tos, (n : Int) / 256, (n : Int) % 256, id / 256, id % 256, 0, 0, ttl, proto, 0, 0, 0, 0, 0, 0, 0, 0, 0, 0] ++ (opts ++ p))) := Lib.hid hr
      have B8 := Lib.hid (hb _ _ B7.out hg4.1)
      have hg8 : g < w8.heap.size := by omega
      clear hr hb hz R7 B7
      have k2 := HC.out _ (HB.out.trans (B8.out.mono HB.out.size)) 2
      simp only [List.getElem?_toArray] at k2
      go_wp2_with fail
      clear k2
      refine (set_row R8.out 6 6 rfl (by omega) (by omega) flags (by omega) (by omega)).mono ?_
      rintro e w9 ⟨rfl, hr, hb, hz⟩
      have R9 : Hid (Row w9 w1.heap.size g n c4 ([64 + (20 + (opts.length : Int)) / 4, tos, (n : Int) / 256, (n : Int) % 256, id / 256, id % 256, flags / 256, flags % 256, ttl, proto, 0, 0, 0, 0, 0, 0, 0, 0, 0, 0] ++ (opts ++ p))) := Lib.hid hr
      have B9 := Lib.hid (hb _ _ B8.out hg4.1)
      have hg9 : g < w9.heap.size := by omega
      clear hr hb hz R8 B8
      go_wp2_with fail
      have k5 := HC.out _ (HB.out.trans (B9.out.mono HB.out.size))
      obtain ⟨cur10, hcur, hfit, hrow, hbel⟩ := R9.out.drew.copied 12 [s0, s1, s2, s3] (by simp; omega)
      have hcp := run_copy_row (P := Try.prog) w9.drew 24 24 3 5 g 12 (n - 12) (c4 - 12) ⟨w.heap.size, 5, none⟩ 4 4 cur10 5 (bv [s0, s1, s2, s3]) Try.underlying24 (by kernel_rfl) hcur (by show _ = min 4 (n - 12); simp [bv]; omega) (fun j v hv => by
        rw [Addr.add_lit]
        rw [World.cell?_drew, k5]
        match j, hv with
        | 0, hv => exact hv
        | 1, hv => exact hv
        | 2, hv => exact hv
        | 3, hv => exact hv) hfit (bv_one _)
      have hn12 : (12 : Int) ≤ (n : Int) := by omega
      have R10 : Hid (Row (w9.drew.setRow g (List.take 12 cur10.toList ++ (bv [s0, s1, s2, s3] ++ List.drop (12 + (bv [s0, s1, s2, s3]).length) cur10.toList)).toArray) w1.heap.size g n c4 ([64 + (20 + (opts.length : Int)) / 4, tos, (n : Int) / 256, (n : Int) % 256, id / 256, id % 256, flags / 256, flags % 256, ttl, proto, 0, 0, s0, s1, s2, s3, 0, 0, 0, 0] ++ (opts ++ p))) := Lib.hid hrow
      have B10 : Hid (Below w1.heap.size w1 (w9.drew.setRow g (List.take 12 cur10.toList ++ (bv [s0, s1, s2, s3] ++ List.drop (12 + (bv [s0, s1, s2, s3]).length) cur10.toList)).toArray)) := Lib.hid (hbel _ _ (below_dr B9.out) hg4.1)
      clear hcur hfit hrow hbel k5
      go_region
      clear hcp hn12 R9 B9
      generalize w9.drew.setRow g (List.take 12 cur10.toList ++ (bv [s0, s1, s2, s3] ++ List.drop (12 + (bv [s0, s1, s2, s3]).length) cur10.toList)).toArray = w10 at *
      go_wp2_with fail
      have k5 := HC.out _ (HB.out.trans (B10.out.mono HB.out.size))
      obtain ⟨cur11, hcur, hfit, hrow, hbel⟩ := R10.out.drew.copied 16 [d0, d1, d2, d3] (by simp; omega)
      have hcp := run_copy_row (P := Try.prog) w10.drew 24 24 3 5 g 16 (n - 16) (c4 - 16) ⟨w.heap.size, 9, none⟩ 4 4 cur11 5 (bv [d0, d1, d2, d3]) Try.underlying24 (by kernel_rfl) hcur (by show _ = min 4 (n - 16); simp [bv]; omega) (fun j v hv => by
        rw [Addr.add_lit]
        rw [World.cell?_drew, k5]
        match j, hv with
        | 0, hv => exact hv
        | 1, hv => exact hv
        | 2, hv => exact hv
        | 3, hv => exact hv) hfit (bv_one _)
      have hn12 : (16 : Int) ≤ (n : Int) := by omega
      have R11 : Hid (Row (w10.drew.setRow g (List.take 16 cur11.toList ++ (bv [d0, d1, d2, d3] ++ List.drop (16 + (bv [d0, d1, d2, d3]).length) cur11.toList)).toArray) w1.heap.size g n c4 ([64 + (20 + (opts.length : Int)) / 4, tos, (n : Int) / 256, (n : Int) % 256, id / 256, id % 256, flags / 256, flags % 256, ttl, proto, 0, 0, s0, s1, s2, s3, d0, d1, d2, d3] ++ (opts ++ p))) := Lib.hid hrow
      have B11 : Hid (Below w1.heap.size w1 (w10.drew.setRow g (List.take 16 cur11.toList ++ (bv [d0, d1, d2, d3] ++ List.drop (16 + (bv [d0, d1, d2, d3]).length) cur11.toList)).toArray)) := Lib.hid (hbel _ _ (below_dr B10.out) hg4.1)
      clear hcur hfit hrow hbel k5
      go_region
      clear hcp hn12 R10 B10
      generalize w10.drew.setRow g (List.take 16 cur11.toList ++ (bv [d0, d1, d2, d3] ++ List.drop (16 + (bv [d0, d1, d2, d3]).length) cur11.toList)).toArray = w11 at *
      go_wp2_with fail
      have hS : Small ([64 + (20 + (opts.length : Int)) / 4, tos, (n : Int) / 256, (n : Int) % 256, id / 256, id % 256, flags / 256, flags % 256, ttl, proto, 0, 0, s0, s1, s2, s3, d0, d1, d2, d3] ++ opts) := by
        have h1 := HS.out
        refine Small.append ?_ h1.1
        intro x hx
        have h2 := h1.2
        have e0 := h2 s0 (by simp); have e1 := h2 s1 (by simp); have e2 := h2 s2 (by simp); have e3 := h2 s3 (by simp)
        have e4 := h2 d0 (by simp); have e5 := h2 d1 (by simp); have e6 := h2 d2 (by simp); have e7 := h2 d3 (by simp)
        simp only [List.mem_cons, List.not_mem_nil, or_false] at hx
        omega
      have hlen : ([64 + (20 + (opts.length : Int)) / 4, tos, (n : Int) / 256, (n : Int) % 256, id / 256, id % 256, flags / 256, flags % 256, ttl, proto, 0, 0, s0, s1, s2, s3, d0, d1, d2, d3] ++ opts).length = 20 + opts.length := by simp; omega
      have hsrc : Src w11 (some ⟨g, 0, none⟩) (20 + opts.length) c4 (bv ([64 + (20 + (opts.length : Int)) / 4, tos, (n : Int) / 256, (n : Int) % 256, id / 256, id % 256, flags / 256, flags % 256, ttl, proto, 0, 0, s0, s1, s2, s3, d0, d1, d2, d3] ++ opts)) := by
        have h1 := R11.out.src
        refine ⟨(fun h => by cases h), by have := h1.cap; omega, h1.most, fun ad had j u hu => h1.cells ad had j u ?_⟩
        rw [← List.append_assoc, bv_append, List.getElem?_append_left]
        · exact hu
        · exact (List.getElem?_eq_some_iff.1 hu).1
      have SM : Hid (∀ w', w' = w11 → Calls Try.prog 14 #[.slice (some ⟨g, 0, none⟩) (20 + opts.length) c4] w' fun e w2 => e = .returned (.int .u16 (sumH ([64 + (20 + (opts.length : Int)) / 4, tos, (n : Int) / 256, (n : Int) % 256, id / 256, id % 256, flags / 256, flags % 256, ttl, proto, 0, 0, s0, s1, s2, s3, d0, d1, d2, d3] ++ opts))) ∧ w2 = w') := Lib.hid (by
        rintro w' rfl
        have := sum_any _ hS (by rw [hlen]; omega) (some ⟨g, 0, none⟩) c4 w' (by rw [hlen]; exact hsrc)
        rw [hlen] at this
        exact this)
      have hsb := sumH_bd ([64 + (20 + (opts.length : Int)) / 4, tos, (n : Int) / 256, (n : Int) % 256, id / 256, id % 256, flags / 256, flags % 256, ttl, proto, 0, 0, s0, s1, s2, s3, d0, d1, d2, d3] ++ opts)
      have HSM : Hid (sumH ([64 + (20 + (opts.length : Int)) / 4, tos, (n : Int) / 256, (n : Int) % 256, id / 256, id % 256, flags / 256, flags % 256, ttl, proto, 0, 0, s0, s1, s2, s3, d0, d1, d2, d3] ++ opts) = sumH ([64 + (20 + (opts.length : Int)) / 4, tos, (n : Int) / 256, (n : Int) % 256, id / 256, id % 256, flags / 256, flags % 256, ttl, proto, 0, 0, s0, s1, s2, s3, d0, d1, d2, d3] ++ opts)) := Lib.hid rfl
      generalize hsm : sumH ([64 + (20 + (opts.length : Int)) / 4, tos, (n : Int) / 256, (n : Int) % 256, id / 256, id % 256, flags / 256, flags % 256, ttl, proto, 0, 0, s0, s1, s2, s3, d0, d1, d2, d3] ++ opts) = sm at hsb SM HSM
      have HSM2 := Lib.hid hsm
      clear hS hlen hsrc hsm
      refine (SM.out _ rfl).mono ?_
      rintro e w12 ⟨rfl, rfl⟩
      go_wp2_with fail
      refine (set_row R11.out 10 10 rfl (by omega) (by omega) sm (by omega) (by omega)).mono ?_
      rintro e w13 ⟨rfl, hr, hb, hz⟩
      have R12 : Hid (Row w13 w1.heap.size g n c4 ([64 + (20 + (opts.length : Int)) / 4, tos, (n : Int) / 256, (n : Int) % 256, id / 256, id % 256, flags / 256, flags % 256, ttl, proto, sm / 256, sm % 256, s0, s1, s2, s3, d0, d1, d2, d3] ++ (opts ++ p))) := Lib.hid hr
      have B12 := Lib.hid (hb _ _ B11.out hg4.1)
      clear hr hb hz R11 B11 SM
      have HE : Hid (PK = [64 + (20 + (opts.length : Int)) / 4, tos, (n : Int) / 256, (n : Int) % 256, id / 256, id % 256, flags / 256, flags % 256, ttl, proto, sm / 256, sm % 256, s0, s1, s2, s3, d0, d1, d2, d3] ++ (opts ++ p)) := Lib.hid (by
        rw [← HPK.out]
        have e1 := HN.out
        simp only [show (20 : Int) + (opts.length : Int) + (p.length : Int) = (n : Int) by omega]
        rw [← HSM2.out]
        simp)
      have HLN : Hid (PK.length = n) := Lib.hid (by rw [HE.out]; simp; have := HN.out; omega)
      go_wp2_with fail
      exact bodyPost_ret (v := .tuple #[.slice (some ⟨g, 0, none⟩) n c4, .int .i64 0]) (by simp [results, Try.results12, go_sem]) rfl
        (YES.out _ (some ⟨g, 0, none⟩) n c4 (by first | rfl | trivial) (by rw [HLN'.out]; exact HLN.out) (by rw [HLN'.out, HE.out]; exact own_base R12.out BW1.out.size) (BW1.out.trans (B12.out.mono BW1.out.size)))
    · have h1 : b1 = false := by rw [HMK.out]; simpa using hsz
      subst h1
      have hg : (1480 - (opts.length : Int) < (p.length : Int)) := by omega
      go_enter Try.func12, Try.ntmps12
      go_wp2_with fail
      refine (HR.out _).mono ?_
      rintro e w1 ⟨rfl, hb⟩
      have HB := Lib.hid hb
      have hc13 := HC.out _ hb 13
      simp only [List.getElem?_toArray] at hc13
      clear hb
      go_wp2_with fail
      exact bodyPost_ret (v := .tuple #[.slice none 0 0, .int .i64 55]) (by simp [results, Try.results12, go_sem]) rfl (NO.out _ (by first | rfl | trivial) (((Below.refl _ _).alloc (Nat.le_refl _) _).trans (HB.out.mono (by simp))))
end Go.Proofs.Ytjembpchgemhnaa.Head
