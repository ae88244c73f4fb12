/- Contracts of the document's answers for the frame layer: sizes, bytes, the same sectors, the same record. Conditions: none beyond each lemma's own hypotheses. -/
import Derived.Test.YtogkibikghbghaaFgFrameOpen
import Derived.Test.YtogkibikghbghaaFgCrcRefSeal
set_option linter.unusedVariables false
set_option linter.unusedSimpArgs false
namespace Go.Proofs.Ytogkibikghbghaa.Frame
open Go.RowKit Go.Proofs.Ytogkibikghbghaa.Fg Go.Proofs.Ytogkibikghbghaa.Crc Go.Proofs.Ytogkibikghbghaa.Disk

theorem refsize_any (n : Int) (hn : -9223372036854775808 ≤ n ∧ n ≤ 9223372036854775807) (w : World) :
    Calls Try.prog 47 #[.int .i64 n] w fun e w' => e = .returned (.int .i64 (secs n)) ∧ w' = w := by
  by_cases h0 : n < 0
  · have hs : Hid (secs n = 0) := Lib.hid (if_neg (by omega))
    go_enter Try.func47, Try.ntmps47
    go_wp2_with fail
    go_ret
    exact ⟨by rw [hs.out]; rfl, rfl⟩
  · by_cases h1 : 700 < n
    · have hs : Hid (secs n = 0) := Lib.hid (if_neg (by omega))
      have h0' : 0 ≤ n := by omega
      clear h0
      go_enter Try.func47, Try.ntmps47
      go_wp2_with fail
      go_ret
      exact ⟨by rw [hs.out]; rfl, rfl⟩
    · have hs : Hid (secs n = (n + 81) / 64) := Lib.hid (if_pos (by omega))
      have h0' : 0 ≤ n := by omega
      have h1' : n ≤ 700 := by omega
      clear h0 h1 hn
      go_enter Try.func47, Try.ntmps47
      go_wp2_with fail
      go_loopg [3] 20 (fun k i wr => ∃ j : Nat, j + k = 20 ∧ i = .int .i64 j ∧ 64 * ((j : Int) - 1) < n + 18 ∧ wr = w)
      case atStart => exact ⟨0, rfl, rfl, by omega, rfl⟩
      case round =>
        obtain ⟨j, hj, rfl, hb, rfl⟩ := hrel
        have hjb : (j : Int) ≤ 20 := by omega
        by_cases hlt : 64 * (j : Int) < n + 18
        · go_wp2_with fail
          go_roundg (gk - 1)
          case measure => omega
          case rel => exact ⟨j + 1, by omega, by go_num, by omega, rfl⟩
        · go_wp2_with fail
          go_ret
          exact ⟨by rw [hs.out]; simp; omega, rfl⟩

set_option maxRecDepth 100000 in
/-- The bytes of a number: a row of its own. -/
theorem bytes_any : ∀ (k : Nat) (hk : k ≤ 8) (n : Int) (h0 : 0 ≤ n) (h1 : n < 18446744073709551616) (w : World),
    Calls Try.prog 65 #[.int .u64 n, .int .i64 k] w fun e w' => ∃ v, e = .returned v ∧ w'.ownsRow w.heap.size 5 1 v k (bv (be k n)) ∧ Below w.heap.size w w'
  | 0, hk, n, h0, h1, w => by
    go_enter Try.func65, Try.ntmps65
    go_wp2_with fail
    go_ret
    exact ⟨_, rfl, World.ownsRow_made w #[] 0 (Nat.le_refl _) (Nat.zero_le _) rfl, (Below.refl _ _).alloc (Nat.le_refl _) _⟩
  | k + 1, hk, n, h0, h1, w => by
    have ih := Lib.hid (fun w => bytes_any k (by omega) (n / 256) (by omega) (by omega) w)
    have hkI : (k : Int) ≤ 7 := by omega
    have e1 : ((k + 1 : Nat) : Int) = (k : Int) + 1 := by omega
    have hne : ((k : Int) + 1 == 0) = false := beq_eq_false_iff_ne.2 (by omega)
    rw [e1]
    clear e1
    go_enter Try.func65, Try.ntmps65
    go_wp2_with fail
    refine (ih.out w).mono ?_
    rintro e w1 ⟨v, rfl, hown, hb⟩
    have HO := Lib.hid (own_same (w' := w1.alloc (.cells #[.int .u8 (n % 256)] 5)) hown (fun q hq => heap_alloc_old _ _ (hown.lt q hq).2))
    have HB := Lib.hid (hb.alloc hb.size (.cells #[.int .u8 (n % 256)] 5))
    have HL := Lib.hid (fun q hq => (hown.lt q hq).1)
    have SR := Lib.hid (src_cell w1 (.int .u8 (n % 256)) 5)
    obtain ⟨A7, c7, rfl, -⟩ := own_form hown
    clear hown hb ih
    go_wp2_with (at_builtin; refine wpList_append_any rfl (.tmp 12) (.tmp 16) 37 rfl w.heap.size 5 (.int .u8 0) 1 1 Try.underlying37 info_u8 rfl (by decide) (by decide) (.slice A7 k c7) k _ rfl HO.out (some ⟨w1.heap.size, 0, none⟩) 1 1 [.int .u8 (n % 256)] rfl SR.out rfl ?h1 ?h4 HB.out.size ?h6)
    case h1 => intro u hu; simp at hu; subst hu; rfl
    case h4 => omega
    intro v' wv hown2 hgr2 _ _
    have HO2 := Lib.hid hown2
    have HB2 := Lib.hid (HB.out.grown hgr2 HB.out.size (fun q hq => HL.out q hq))
    clear hown2 hgr2
    go_wp2_with fail
    go_ret
    exact ⟨_, rfl, by rw [be, bv_append]; exact HO2.out, HB2.out⟩
theorem rbytes_bw (n : Int) (h0 : 0 ≤ n) (h1 : n < 18446744073709551616) (k : Nat) (hk8 : k ≤ 8) (K : Int) (hK : (k : Int) = K) (w : World) :
    Calls Try.prog 65 #[.int .u64 n, .int .i64 K] w fun e w' => ∃ v, e = .returned v ∧ w'.ownsRow w.heap.size 5 1 v k (bv (be k n)) ∧ Below w.heap.size w w' := by
  subst hK
  exact bytes_any k hk8 n h0 h1 w

theorem secInfo2 : (Try.prog.info? 77).map (fun i => (i.zero, i.size)) = some (some (.agg (bv noSec).toArray), 64) := by kernel_rfl
/-- A cell of a row of one's own is written. -/
theorem own_set {w : World} {base size n c g : Nat} {e : TypeId} {xs : List Value} (h : w.ownsRow base e size (.slice (some ⟨g, 0, none⟩) n c) n xs) {j : Nat} (hj : j < n * size) (x : Value) :
    (w.setCell ⟨g, j, none⟩ x).ownsRow base e size (.slice (some ⟨g, 0, none⟩) n c) n (xs.set j x) ∧ (∃ u, w.cell? ⟨g, j, none⟩ = some u) ∧ w.frozen? ⟨g, j, none⟩ = false ∧ base ≤ g := by
  obtain ⟨h1, h2⟩ := h
  rcases h2 with ⟨h', _⟩ | ⟨g', c', cur, h', hb, hg, hnc, hcm, hcs, htake⟩
  · simp at h'
  · simp only [Value.slice.injEq, Option.some.injEq, Addr.mk.injEq, and_true, true_and] at h'
    obtain ⟨rfl, rfl⟩ := h'
    have hle : n * size ≤ c * size := Nat.mul_le_mul_right size hnc
    have hjc : j < cur.size := by omega
    refine ⟨⟨by simpa using h1, .inr ⟨g, c, _, rfl, hb, hset_at w g j x hg, hnc, hcm, by simpa using hcs, ?_⟩⟩, ⟨cur[j], by rw [cell_of_block hg]; exact Array.getElem?_eq_getElem hjc⟩, free_of_block hg _, hb⟩
    rw [← htake, Array.toList_setIfInBounds, List.take_set]
/-- The document's rows: the bytes so far, noughts behind. -/
def sofar (b : List Int) (j : Nat) : List Int := b.take j ++ List.replicate (64 * ((j + 63) / 64) - j) 0
theorem sofar_length {b : List Int} {j : Nat} (hj : j ≤ b.length) : (sofar b j).length = 64 * ((j + 63) / 64) := by
  rw [sofar, List.length_append, List.length_take, List.length_replicate]; omega
theorem sofar_new {b : List Int} {j : Nat} (hj : j < b.length) (hz : j % 64 = 0) : (sofar b j ++ noSec).set j b[j] = sofar b (j + 1) := by
  have e1 : 64 * ((j + 63) / 64) - j = 0 := by omega
  have e2 : 64 * ((j + 1 + 63) / 64) - (j + 1) = 63 := by omega
  have hl : (b.take j).length = j := by rw [List.length_take]; omega
  rw [sofar, sofar, e1, e2, List.replicate_zero, List.append_nil, List.set_append, if_neg (by omega), hl, Nat.sub_self, List.take_add_one, List.getElem?_eq_getElem hj, List.append_assoc]
  rfl
theorem sofar_old {b : List Int} {j : Nat} (hj : j < b.length) (hz : ¬ j % 64 = 0) : (sofar b j).set j b[j] = sofar b (j + 1) := by
  have e1 : 64 * ((j + 63) / 64) - j = 64 * ((j + 1 + 63) / 64) - (j + 1) + 1 := by omega
  have hl : (b.take j).length = j := by rw [List.length_take]; omega
  rw [sofar, sofar, e1, List.set_append, if_neg (by omega), hl, Nat.sub_self, List.take_add_one, List.getElem?_eq_getElem hj, List.replicate_succ, List.append_assoc]
  rfl
theorem sofar_end {r : Rec} (h : r.good) : sofar r.bytes r.bytes.length = r.made.flatten := by
  rw [Rec.made_flat h, sofar, List.take_length, r.bytes_length, Rec.many_of h.1, show r.pay.length + 18 + 63 = r.pay.length + 81 by omega]

set_option maxRecDepth 100000 in
set_option maxHeartbeats 4000000 in
theorem refmake_any (r : Rec) (hok : r.ok) (hp : r.pay.length ≤ 100000) (A : Option Addr) (c : Nat) (w : World) (hs : Fg.Src w A r.pay.length c (bv r.pay)) :
    Calls Try.prog 49 #[recv A c r] w (MadeE r w) := by
  have hlen : (r.pay.length : Int) ≤ 100000 := by omega
  have SA0 := Lib.hid hs
  have hq0 := hok.seq0
  have hq1 := hok.seq1
  have hq2 := hok.epoch0
  have hq3 := hok.epoch1
  clear hs
  have B1 : Hid (Below w.heap.size w (w.alloc (.cells #[.int .u64 r.seq, .int .u32 r.epoch, .slice A r.pay.length c] 40))) := Lib.hid ((Below.refl _ _).alloc (Nat.le_refl _) _)
  by_cases hbad : ¬ r.good
  · have HN := Lib.hid hbad
    by_cases h7 : 700 < r.pay.length
    · have h7' : (700 : Int) < r.pay.length := by omega
      clear hbad
      unfold recv
      go_enter Try.func49, Try.ntmps49
      go_wp2_with fail
      exact bodyPost_ret (v := .tuple #[.slice none 0 0, .int .i64 81]) (by simp [results, Try.results49, go_sem]) rfl (MadeE.no HN.out B1.out)
    · have hseq : (r.seq == 0) = true := beq_iff_eq.2 (by
        rcases Classical.em (r.seq = 0) with h | h
        · exact h
        · exact absurd ⟨by omega, h⟩ HN.out)
      have h7' : ¬ ((700 : Int) < r.pay.length) := by omega
      clear hbad
      unfold recv
      go_enter Try.func49, Try.ntmps49
      go_wp2_with fail
      exact bodyPost_ret (v := .tuple #[.slice none 0 0, .int .i64 81]) (by simp [results, Try.results49, go_sem]) rfl (MadeE.no HN.out B1.out)
  · have hgd : r.good := Decidable.not_not.1 hbad
    have HGD := Lib.hid hgd
    have h7' : (r.pay.length : Int) ≤ 700 := by have := hgd.1; omega
    have hseq : (r.seq == 0) = false := beq_eq_false_iff_ne.2 hgd.2
    have hd7 : decide ((700 : Int) < r.pay.length) = false := decide_eq_false (by omega)
    have EW : IntKind.u64.wrap (r.pay.length : Int) = r.pay.length := by rw [IntKind.wrap_u64]; omega
    have EW2 : IntKind.u64.wrap r.epoch = r.epoch := by rw [IntKind.wrap_u64]; omega
    clear hbad hgd
    unfold recv
    go_enter Try.func49, Try.ntmps49
    go_upto_region 3 with fail
    have HG : Hid ((w.alloc (.cells #[.int .u64 r.seq, .int .u32 r.epoch, .slice A r.pay.length c] 40)).heap[w.heap.size]? = some (.cells #[.int .u64 r.seq, .int .u32 r.epoch, .slice A r.pay.length c] 40)) := Lib.hid (heap_alloc_at w _)
    obtain ⟨w1, hw1⟩ : ∃ w1, w.alloc (.cells #[.int .u64 r.seq, .int .u32 r.epoch, .slice A r.pay.length c] 40) = w1 := ⟨_, rfl⟩
    rw [hw1] at HG B1 ⊢
    clear hw1
    have hg : w.heap.size < w1.heap.size := block_lt HG.out
    have CC : Hid (∀ w', Below w1.heap.size w1 w' → w'.cell? ⟨w.heap.size, 0, none⟩ = some (.int .u64 r.seq) ∧ w'.cell? ⟨w.heap.size, 1, none⟩ = some (.int .u32 r.epoch) ∧ w'.cell? ⟨w.heap.size, 2, none⟩ = some (.slice A r.pay.length c)) :=
      Lib.hid (fun w' hb => ⟨(hb.cell (p := ⟨w.heap.size, 0, none⟩) hg).trans (cell_of_block HG.out 0), (hb.cell (p := ⟨w.heap.size, 1, none⟩) hg).trans (cell_of_block HG.out 1), (hb.cell (p := ⟨w.heap.size, 2, none⟩) hg).trans (cell_of_block HG.out 2)⟩)
    have SA : Hid (∀ w', Below w1.heap.size w1 w' → Fg.Src w' A r.pay.length c (bv r.pay)) := Lib.hid (fun w' hb => SA0.out.same fun ad had hne => ((B1.out.trans (hb.mono B1.out.size)).block _ (SA0.out.lt had hne)))
    obtain ⟨k0, k1, k2⟩ := CC.out w1 (Below.refl _ _)
    have N2 := Lib.hid (fun w => rbytes_bw (r.pay.length : Int) (by omega) (by omega) 2 (by decide) 2 rfl w)
    have N8 := Lib.hid (fun w => rbytes_bw r.seq hq0 hq1 8 (by decide) 8 rfl w)
    have N4 := Lib.hid (fun w => rbytes_bw r.epoch hq2 (by omega) 4 (by decide) 4 rfl w)
    clear hlen hq0 hq1 hq2 hq3 hseq hg
    go_region_held3 (fun w' => w'.cell? ⟨w.heap.size, 0, none⟩ = some (.int .u64 r.seq) ∧ w'.cell? ⟨w.heap.size, 1, none⟩ = some (.int .u32 r.epoch) ∧ w'.cell? ⟨w.heap.size, 2, none⟩ = some (.slice A r.pay.length c)) (first | exact CC.out _ (Fg.below_dr (Below.refl _ _)) | exact CC.out _ HX.out)
      (first
        | (go_at_call_of 65 (Value.int IntKind.i64 2); refine (N2.out _).mono ?_; rintro e w2 ⟨v2, rfl, ho2, hb2⟩; have HX : Hid (Below w1.heap.size w1 w2) := Lib.hid ((Fg.below_dr (Below.refl _ _)).trans hb2); have HO2 := Lib.hid ho2; clear ho2 hb2)
        | (go_at_call_of 65 (Value.int IntKind.i64 8); refine (N8.out _).mono ?_; rintro e w3 ⟨v3, rfl, ho3, hb3⟩; have HO3 := Lib.hid ho3; have HO22 := Lib.hid (own_same HO2.out (fun q hq => hb3.block q (HO2.out.lt q hq).2)); have HO2 := HO22; have HX3 : Hid (Below w1.heap.size w1 w3) := Lib.hid (HX.out.trans (hb3.mono HX.out.size)); have HX := HX3; obtain ⟨A3, c3, rfl, -⟩ := own_form ho3; clear ho3 hb3)
        | (refine step_append_any (by rfl) (.tmp 21) (.tmp 24) 37 (by rfl) w1.heap.size 5 (.int .u8 0) 1 1 Try.underlying37 info_u8 rfl (by decide) (by decide) v2 2 (bv (be 2 (r.pay.length : Int))) (by rfl) HO2.out A3 8 c3 (bv (be 8 r.seq)) (by rfl) (Src.of_own HO3.out) (by simp [bv, be_length]) (bv_one _) (by omega) HX.out.size ?_; intro v4 w4 ho hg' _ _; have HX4 : Hid (Below w1.heap.size w1 w4) := Lib.hid (HX.out.grown hg' HX.out.size (fun k hk => (HO2.out.lt k hk).1)); have HX := HX4; have HO4 := Lib.hid ho; clear ho hg')
        | (go_at_call_of 65 (Value.int IntKind.i64 4); refine (N4.out _).mono ?_; rintro e w5 ⟨v5, rfl, ho5, hb5⟩; have HO5 := Lib.hid ho5; have HO44 := Lib.hid (own_same HO4.out (fun q hq => hb5.block q (HO4.out.lt q hq).2)); have HO4 := HO44; have HX5 : Hid (Below w1.heap.size w1 w5) := Lib.hid (HX.out.trans (hb5.mono HX.out.size)); have HX := HX5; obtain ⟨A5, c5, rfl, -⟩ := own_form ho5; clear ho5 hb5)
        | (refine step_append_any (by rfl) (.tmp 25) (.tmp 29) 37 (by rfl) w1.heap.size 5 (.int .u8 0) 1 1 Try.underlying37 info_u8 rfl (by decide) (by decide) v4 (2 + 8) (bv (be 2 (r.pay.length : Int)) ++ bv (be 8 r.seq)) (by rfl) HO4.out A5 4 c5 (bv (be 4 r.epoch)) (by rfl) (Src.of_own HO5.out) (by simp [bv, be_length]) (bv_one _) (by omega) HX.out.size ?_; intro v6 w6 ho hg' _ _; have HX6 : Hid (Below w1.heap.size w1 w6) := Lib.hid (HX.out.grown hg' HX.out.size (fun k hk => (HO4.out.lt k hk).1)); have HX := HX6; have HO6 := Lib.hid ho; clear ho hg')
        | fail)
    have HH : Hid (bv (be 2 (r.pay.length : Int)) ++ bv (be 8 r.seq) ++ bv (be 4 r.epoch) = bv r.head ∧ bv r.head ++ bv r.pay = bv r.plain) := Lib.hid ⟨by simp [Rec.head, bv_append], by rw [Rec.plain, bv_append]⟩
    have ho6 := HO6.out
    rw [HH.out.1] at ho6
    have HO7 := Lib.hid ho6
    have SP := Lib.hid (SA.out _ HX.out)
    have hl6 := Lib.hid (fun q hq => (ho6.lt q hq).1)
    obtain ⟨k0, k1, k2⟩ := CC.out _ HX.out
    obtain ⟨A6, c6, rfl, -⟩ := own_form ho6
    clear ho6 HO6 HO5 HO4 HO44 HO3 HO2 HO22 HX5 HX4 HX3 N2 N4 N8 EW EW2
    go_wp2_with (at_builtin; refine wpList_append_any rfl (.tmp 31) (.tmp 33) 37 rfl w1.heap.size 5 (.int .u8 0) 1 1 Try.underlying37 info_u8 rfl (by decide) (by decide) (.slice A6 14 c6) 14 _ rfl HO7.out A r.pay.length c (bv r.pay) rfl SP.out (by simp [bv]) (bv_one _) ?h4 HX.out.size ?h6)
    case h4 => omega
    intro v7 w7 ho hg' _ _
    have HX7 : Hid (Below w1.heap.size w1 w7) := Lib.hid (HX.out.grown hg' HX.out.size (fun k hk => hl6.out k hk))
    rw [HH.out.2] at ho
    have HPL : Hid (14 + r.pay.length = r.plain.length) := Lib.hid (by rw [Rec.plain_length]; omega)
    rw [HPL.out] at ho
    obtain ⟨A7, c7, rfl, -⟩ := own_form ho
    have S7 := Lib.hid (Src.of_own ho)
    have HSB := Lib.hid (refseal_any r.plain (Rec.plain_small hok.small) (by rw [Rec.plain_length]; omega) A7 c7 w7 (Src.of_own ho))
    clear ho hg' SP HO7 hl6 k0 k1 k2
    clear HPL
    go_wp2_with fail
    refine HSB.out.mono ?_
    rintro e w8 ⟨A8, c8, rfl, ho8, hb8⟩
    have B8 : Hid (Below w.heap.size w w8) := Lib.hid (B1.out.trans ((HX7.out.trans (hb8.mono HX7.out.size)).mono B1.out.size))
    obtain ⟨bl, hbl⟩ : ∃ bl, r.plain.length + 4 = bl := ⟨_, rfl⟩
    have hbl2 : r.bytes.length = bl := by rw [Rec.bytes, sealed_length]; exact hbl
    rw [hbl] at ho8
    rw [hbl]
    have S8 : Hid (Fg.Src w8 A8 bl c8 (bv r.bytes)) := Lib.hid (Src.of_own ho8)
    have HBL := Lib.hid hbl2
    have hb718 : (bl : Int) ≤ 718 := by have := r.bytes_length; omega
    have EMP : Hid ((w8.alloc (.cells #[] 77)).ownsRow w8.heap.size 77 64 (.slice (some ⟨w8.heap.size, 0, none⟩) 0 0) 0 (bv (sofar r.bytes 0))) := Lib.hid (by
      have := World.ownsRow_made (e := 77) (size := 64) w8 #[] 0 (Nat.le_refl _) (Nat.zero_le _) rfl
      simpa [sofar, bv] using this)
    clear hbl hbl2 ho8 hb8 HSB S7 h7' hd7
    go_wp2_with fail
    go_loopg [5, 39] bl (fun k v i wr => ∃ j : Nat, j + k = bl ∧ i = .int .i64 j ∧ wr.ownsRow w8.heap.size 77 64 v ((j + 63) / 64) (bv (sofar r.bytes j)) ∧ Below w8.heap.size w8 wr)
    case atStart => exact ⟨0, Nat.zero_add _, rfl, EMP.out, (Below.refl _ _).alloc (Nat.le_refl _) _⟩
    case round =>
      obtain ⟨j, hj, rfl, hown, hbel⟩ := hrel
      by_cases hlt : j < bl
      · have hjb : j < r.bytes.length := by have := HBL.out; omega
        have hsr := S8.out.same (w' := wr) (fun ad had hne => hbel.block _ (S8.out.lt had hne))
        rw [← HBL.out] at hsr
        obtain ⟨ad, rfl, hc⟩ := src_byte hsr hjb
        have HBE := Lib.hid hbel
        have HO := Lib.hid hown
        have HL := Lib.hid (fun q hq => (hown.lt q hq).1)
        have hsl := sofar_length (Nat.le_of_lt hjb)
        clear hsr hbel EMP
        by_cases hz : j % 64 = 0
        · obtain ⟨q, hq⟩ : ∃ q, j = 64 * q := ⟨j / 64, by omega⟩
          have hset := sofar_new hjb hz
          have HSET := Lib.hid hset
          rw [show (j + 63) / 64 = q by omega] at hown hsl
          have HO := Lib.hid hown
          have hzI : (j : Int) % 64 = 0 := by omega
          have hq12 : (q : Int) ≤ 12 := by omega
          have HQ := Lib.hid hq
          obtain ⟨A9, c9, rfl, -⟩ := own_form hown
          have SS : Hid (Fg.Src (wr.alloc (.cells (bv noSec).toArray 77)) (some ⟨wr.heap.size, 0, none⟩) 1 1 (bv noSec)) := Lib.hid (src_rows wr (bv noSec) _ 1 (by simp [maxLen]))
          have HOA := Lib.hid (own_same (w' := wr.alloc (.cells (bv noSec).toArray 77)) hown (fun b hb => heap_alloc_old _ _ (hown.lt b hb).2))
          have HBA := Lib.hid (HBE.out.alloc HBE.out.size (.cells (bv noSec).toArray 77))
          clear hset hz hq hown
          generalize r.bytes[j] = x at *
          have HBD : Hid ((q + 1) * 64 ≤ 140737488355328) := Lib.hid (by omega)
          have HVS : Hid ((Value.agg (bv noSec).toArray).cells.size = 64) := Lib.hid (by simp [Value.cells, bv, noSec])
          have HNL : Hid ((bv noSec).length = 1 * 64) := Lib.hid (by simp [bv, noSec])
          go_wp2_with (first
            | refine wpList_build_as rfl 77 #[] rfl (bv noSec).toArray secBuilt0 ?_
            | refine wpList_slice_one rfl 56 77 (.tmp 48) rfl 64 (.agg (bv noSec).toArray) (.agg (bv noSec).toArray) rfl Try.underlying56 secInfo2 (by decide) (by decide) HVS.out ?_
            | (at_builtin; refine wpList_append_any rfl (.tmp 47) (.tmp 49) 56 rfl w8.heap.size 77 (.agg (bv noSec).toArray) 64 64 Try.underlying56 secInfo' HVS.out (by decide) (by decide) (.slice A9 q c9) q _ rfl HOA.out (some ⟨wr.heap.size, 0, none⟩) 1 1 (bv noSec) rfl SS.out HNL.out (bv_one _) HBD.out HBA.out.size ?_))
          intro v' wv hown2 hgr2 _ _
          rw [← bv_append] at hown2
          have HB2 := Lib.hid (HBA.out.grown hgr2 HBA.out.size (fun b hb => HL.out b hb))
          obtain ⟨g9, c10, rfl⟩ := ownsRow_succ hown2
          obtain ⟨hos, ⟨u, hcu⟩, hfu, hbg⟩ := own_set hown2 (j := 64 * q) (by omega) (.int .u8 x)
          have e0 : (bv (sofar r.bytes j ++ noSec)).set (64 * q) (.int .u8 x) = bv (sofar r.bytes (j + 1)) := by
            rw [← HSET.out, ← HQ.out]; simp [bv, List.map_set]
          rw [e0] at hos
          rw [Nat.mul_comm 64 q] at hos hcu hfu
          have HOS := Lib.hid hos
          have HB3 := Lib.hid (HB2.out.setCell (p := ⟨g9, q * 64, none⟩) hbg (.int .u8 x))
          clear e0 hos hown2 hgr2
          go_wp2_with fail
          go_roundg (gk - 1)
          case measure => omega
          case rel => exact ⟨j + 1, by omega, by go_num, by rw [show (j + 1 + 63) / 64 = q + 1 by have := HQ.out; omega]; exact HOS.out, HB3.out⟩
        · obtain ⟨q, s, hq, hs64, hs0⟩ : ∃ q s, j = 64 * q + s ∧ s < 64 ∧ 0 < s := ⟨j / 64, j % 64, by omega, by omega, by omega⟩
          have hset := sofar_old hjb hz
          have HSET := Lib.hid hset
          rw [show (j + 63) / 64 = q + 1 by omega] at hown hsl
          have hzI : (j : Int) % 64 = (s : Int) := by omega
          have hzb : ((s : Int) == 0) = false := beq_eq_false_iff_ne.2 (by omega)
          have hs64I : (s : Int) < 64 := by omega
          have hq12 : (q : Int) ≤ 12 := by omega
          have HQ := Lib.hid hq
          obtain ⟨g9, c10, rfl⟩ := ownsRow_succ hown
          obtain ⟨hos, ⟨u, hcu⟩, hfu, hbg⟩ := own_set hown (j := 64 * q + s) (by omega) (.int .u8 r.bytes[j])
          have e0 : (bv (sofar r.bytes j)).set (64 * q + s) (.int .u8 r.bytes[j]) = bv (sofar r.bytes (j + 1)) := by
            rw [← HSET.out, ← HQ.out]; simp [bv, List.map_set]
          rw [e0] at hos
          rw [Nat.mul_comm 64 q] at hos hcu hfu
          have HOS := Lib.hid hos
          have HB3 := Lib.hid (HBE.out.setCell (p := ⟨g9, q * 64 + s, none⟩) hbg (.int .u8 r.bytes[j]))
          clear hset hz hq hown e0 hos
          generalize r.bytes[j] = x at *
          go_wp2_with fail
          go_roundg (gk - 1)
          case measure => omega
          case rel => exact ⟨j + 1, by omega, by go_num, by rw [show (j + 1 + 63) / 64 = q + 1 by have := HQ.out; omega]; exact HOS.out, HB3.out⟩
      · obtain rfl : j = bl := by omega
        have HBE := Lib.hid hbel
        have hmn : (j + 63) / 64 = r.made.length := by
          rw [Rec.made_length HGD.out, Rec.many_of HGD.out.1]; have := HBL.out; have := r.bytes_length; omega
        have hfl : sofar r.bytes j = r.made.flatten := by rw [← sofar_end HGD.out, HBL.out]
        have herr : r.err = 0 := if_pos HGD.out
        rw [hmn, hfl, ← sv_flat] at hown
        have HO := Lib.hid (own_base hown B8.out.size)
        obtain ⟨A9, c9, rfl, -⟩ := own_form hown
        have HER := Lib.hid herr
        clear hmn hfl herr hown hbel EMP
        go_wp2_with fail
        exact bodyPost_ret (v := .tuple #[.slice A9 r.made.length c9, .int .i64 0]) (by simp [results, Try.results49, go_sem]) rfl
          ⟨A9, c9, by rw [HER.out], HO.out, B8.out.trans (HBE.out.mono B8.out.size)⟩
end Go.Proofs.Ytogkibikghbghaa.Frame
