/- A log in memory, and the contracts of its small methods. Conditions: none beyond each lemma's own hypotheses. -/
import Derived.Test.YtogkibikghbghaaFgWalPure
import Derived.Test.YtogkibikghbghaaFgDiskNew
set_option linter.unusedVariables false
set_option linter.unusedSimpArgs false
namespace Go.Proofs.Ytogkibikghbghaa.Wal
open Go.RowKit Go.Proofs.Ytogkibikghbghaa.Fg Go.Proofs.Ytogkibikghbghaa.Frame Go.Proofs.Ytogkibikghbghaa.Disk Go.Proofs.Ytogkibikghbghaa.Area

def lcells (g : Nat) (l : Lg) : Array Value := #[.pointer (some ⟨g, 0, none⟩), .int .u32 l.epoch, .int .u64 l.next, .int .i64 l.start, .int .i64 l.seg, .int .i64 l.taken]
/-- A log at block lb, over the disk at block g; all that the disk is made of lies in blocks of F. -/
structure IsLog (w : World) (lb g : Nat) (l : Lg) (d : Dk) (F : Nat → Prop) : Prop where
  disk : IsDisk w g d F
  head : w.heap[lb]? = some (.cells (lcells g l) 87 (0, 0))
  nf : ¬ F lb
  ok : l.ok d.st.length
  byt : Byt d
theorem IsLog.below {w w' : World} {lb g : Nat} {l : Lg} {d : Dk} {F : Nat → Prop} (h : IsLog w lb g l d F) (hb : Below w.heap.size w w') : IsLog w' lb g l d F :=
  ⟨h.disk.below hb, (hb.block _ (block_lt h.head)).trans h.head, h.nf, h.ok, h.byt⟩
theorem IsLog.cell {w : World} {lb g : Nat} {l : Lg} {d : Dk} {F : Nat → Prop} (h : IsLog w lb g l d F) (i : Nat) : w.cell? ⟨lb, i, none⟩ = (lcells g l)[i]? := cell_of_block h.head i

/-- What a Start leaves. -/
def StartE (w : World) (g : Nat) (d : Dk) (F : Nat → Prop) (epoch seq seg : Int) (e : Ending) (w' : World) : Prop :=
  ∃ A, e = .returned (.tuple #[.pointer A, .int .i64 (startE d.st.length seq seg)]) ∧ Below w.heap.size w w' ∧ (startE d.st.length seq seg ≠ 0 → A = none) ∧
    (startE d.st.length seq seg = 0 → ∃ lb, A = some ⟨lb, 0, none⟩ ∧ w.heap.size ≤ lb ∧ IsLog w' lb g (Lg.new epoch seq seg) d F)
set_option maxRecDepth 100000 in
theorem start_any {w : World} {g : Nat} {d : Dk} {F : Nat → Prop} (h : IsDisk w g d F) (hby : Byt d) (epoch seq seg : Int) (he : 0 ≤ epoch ∧ epoch < 4294967296) (hs : 0 ≤ seq ∧ seq < 18446744073709551616) :
    Calls Try.prog 9 #[.pointer (some ⟨g, 0, none⟩), .int .u32 epoch, .int .u64 seq, .int .i64 seg] w (StartE w g d F epoch seq seg) := by
  have H := Lib.hid h
  have SG := Lib.hid (fun w' => Area.seg_any (d.st.length : Int) seg w')
  clear h
  go_enter Try.func9, Try.ntmps9
  go_wp2_with fail
  refine (len_any H.out).mono ?_
  rintro e w1 ⟨rfl, rfl⟩
  go_wp2_with fail
  refine (SG.out w).mono ?_
  rintro e w1 ⟨rfl, hb1⟩
  have B1 := Lib.hid hb1
  clear hb1
  by_cases hok : okB d.st.length seg = true
  · have e1 : segE d.st.length seg = 0 := if_pos hok
    rw [e1]
    clear e1
    by_cases h0 : seq = 0
    · have hE : Hid (startE d.st.length seq seg = 81) := Lib.hid (by rw [startE, if_pos hok, if_pos h0])
      have hq : (seq == 0) = true := beq_iff_eq.2 h0
      clear h0 hok
      go_wp2_with fail
      exact bodyPost_ret (v := .tuple #[.pointer none, .int .i64 81]) (by simp [results, Try.results9, go_sem]) rfl
        ⟨none, by rw [hE.out], B1.out, fun _ => rfl, fun hz => by rw [hE.out] at hz; exact absurd hz (by decide)⟩
    · have hE : Hid (startE d.st.length seq seg = 0) := Lib.hid (by rw [startE, if_pos hok, if_neg h0])
      have hq : (seq == 0) = false := beq_eq_false_iff_ne.2 h0
      have HOK := Lib.hid hok
      clear h0 hok
      have HK := Lib.hid (heap_alloc_at w1 (.cells (lcells g (Lg.new epoch seq seg)) 87))
      have HL : Hid (IsLog (w1.alloc (.cells (lcells g (Lg.new epoch seq seg)) 87)) w1.heap.size g (Lg.new epoch seq seg) d F) := Lib.hid (by
        refine ⟨H.out.below (B1.out.alloc B1.out.size _), HK.out, fun hF => ?_, ⟨he.1, he.2, hs.1, hs.2, HOK.out, HOK.out, Int.le_refl 0, by show (0 : Int) ≤ 16; decide⟩, hby⟩
        have := H.out.lt _ hF
        have := B1.out.size
        omega)
      have B2 := Lib.hid (B1.out.alloc B1.out.size (.cells (lcells g (Lg.new epoch seq seg)) 87))
      simp only [lcells, Lg.new] at HK HL B2
      go_wp2_with fail
      exact bodyPost_ret (v := .tuple #[.pointer (some ⟨w1.heap.size, 0, none⟩), .int .i64 0]) (by simp [results, Try.results9, go_sem]) rfl
        ⟨some ⟨w1.heap.size, 0, none⟩, by rw [hE.out], B2.out, fun hz => absurd hE.out hz, fun _ => ⟨_, rfl, B1.out.size, HL.out⟩⟩
  · have e1 : segE d.st.length seg = 91 := if_neg hok
    have hE : Hid (startE d.st.length seq seg = 91) := Lib.hid (by rw [startE, if_neg hok])
    rw [e1]
    clear e1 hok
    go_wp2_with fail
    exact bodyPost_ret (v := .tuple #[.pointer none, .int .i64 91]) (by simp [results, Try.results9, go_sem]) rfl
      ⟨none, by rw [hE.out], B1.out, fun _ => rfl, fun hz => by rw [hE.out] at hz; exact absurd hz (by decide)⟩

theorem lnext_any {w : World} {lb g : Nat} {l : Lg} {d : Dk} {F : Nat → Prop} (h : IsLog w lb g l d F) :
    Calls Try.prog 30 #[.pointer (some ⟨lb, 0, none⟩)] w fun e w' => e = .returned (.int .u64 l.next) ∧ w = w' := by
  have c2 := h.cell 2
  simp only [lcells] at c2
  go_enter Try.func30, Try.ntmps30
  go_wp2_with fail
  go_ret
  exact ⟨rfl, rfl⟩
theorem lseg_any {w : World} {lb g : Nat} {l : Lg} {d : Dk} {F : Nat → Prop} (h : IsLog w lb g l d F) :
    Calls Try.prog 31 #[.pointer (some ⟨lb, 0, none⟩)] w fun e w' => e = .returned (.int .i64 l.seg) ∧ w = w' := by
  have c2 := h.cell 4
  simp only [lcells] at c2
  go_enter Try.func31, Try.ntmps31
  go_wp2_with fail
  go_ret
  exact ⟨rfl, rfl⟩
theorem behind_any {w : World} {lb g : Nat} {l : Lg} {d : Dk} {F : Nat → Prop} (h : IsLog w lb g l d F) (k : Int) :
    Calls Try.prog 58 #[.pointer (some ⟨lb, 0, none⟩), .int .i64 k] w fun e w' => e = .returned (.int .i64 (nextV d.st.length k)) ∧ Below w.heap.size w w' := by
  have c2 := h.cell 0
  simp only [lcells] at c2
  have H := Lib.hid h
  have NX := Lib.hid (fun w' => Area.next_any (d.st.length : Int) k w')
  clear h
  go_enter Try.func58, Try.ntmps58
  go_wp2_with fail
  refine (len_any H.out.disk).mono ?_
  rintro e w1 ⟨rfl, rfl⟩
  go_wp2_with fail
  refine (NX.out w).mono ?_
  rintro e w1 ⟨rfl, hb1⟩
  go_wp2_with fail
  go_ret
  exact ⟨rfl, hb1⟩

/-- What place hands back. -/
def PlaceE (w : World) (l : Lg) (N many : Int) (e : Ending) (w' : World) : Prop :=
  ∃ a b, e = .returned (.tuple #[.int .i64 a, .int .i64 b, .bool (l.placeOk N many)]) ∧ Below w.heap.size w w' ∧ (l.placeOk N many = true → a = l.placeSeg N many ∧ b = l.placeAt many)
set_option maxRecDepth 100000 in
theorem place_any {w : World} {lb g : Nat} {l : Lg} {d : Dk} {F : Nat → Prop} (h : IsLog w lb g l d F) (many : Int) (hm : 0 ≤ many ∧ many ≤ 12) :
    Calls Try.prog 38 #[.pointer (some ⟨lb, 0, none⟩), .int .i64 many] w (PlaceE w l d.st.length many) := by
  have H := Lib.hid h
  have c2 := h.cell 2
  have c3 := h.cell 3
  have c4 := h.cell 4
  have c5 := h.cell 5
  simp only [lcells] at c2 c3 c4 c5
  have ht0 := h.ok.t0
  have ht1 := h.ok.t1
  obtain ⟨hm0, hm1⟩ := hm
  clear h
  by_cases hz : many = 0
  · have hP : Hid (l.placeOk d.st.length many = false) := Lib.hid (by simp [Lg.placeOk, hz])
    have hzb : (many == 0) = true := beq_iff_eq.2 hz
    clear hz
    go_enter Try.func38, Try.ntmps38
    go_wp2_with fail
    exact bodyPost_ret (v := .tuple #[.int .i64 0, .int .i64 0, .bool false]) (by simp [results, Try.results38, go_sem]) rfl
      ⟨0, 0, by rw [hP.out], Below.refl _ _, fun hz => by rw [hP.out] at hz; cases hz⟩
  · have hzb : (many == 0) = false := beq_eq_false_iff_ne.2 hz
    by_cases hn : l.next = 0
    · have hP : Hid (l.placeOk d.st.length many = false) := Lib.hid (by simp [Lg.placeOk, hn])
      have hnb : (l.next == 0) = true := beq_iff_eq.2 hn
      clear hz hn
      go_enter Try.func38, Try.ntmps38
      go_wp2_with fail
      exact bodyPost_ret (v := .tuple #[.int .i64 0, .int .i64 0, .bool false]) (by simp [results, Try.results38, go_sem]) rfl
        ⟨0, 0, by rw [hP.out], Below.refl _ _, fun hz => by rw [hP.out] at hz; cases hz⟩
    · have hnb : (l.next == 0) = false := beq_eq_false_iff_ne.2 hn
      by_cases hf : l.taken + many ≤ 16
      · have hP : Hid (l.placeOk d.st.length many = true ∧ l.placeSeg d.st.length many = l.seg ∧ l.placeAt many = l.taken) := Lib.hid ⟨by simp [Lg.placeOk, hn, hz, hf], if_pos hf, if_pos hf⟩
        clear hz hn
        go_enter Try.func38, Try.ntmps38
        go_upto_region 4 with fail
        go_quiet (fail)
        go_wp2_with fail
        exact bodyPost_ret (v := .tuple #[.int .i64 l.seg, .int .i64 l.taken, .bool true]) (by simp [results, Try.results38, go_sem]) rfl
          ⟨_, _, by rw [hP.out.1], below_drewN (Below.refl _ _) _, fun _ => ⟨hP.out.2.1.symm, hP.out.2.2.symm⟩⟩
      · have hP : Hid (l.placeOk d.st.length many = !(decide (nextV d.st.length l.seg = l.start)) ∧ l.placeSeg d.st.length many = nextV d.st.length l.seg ∧ l.placeAt many = 0) := Lib.hid ⟨by simp [Lg.placeOk, hn, hz, hf], if_neg hf, if_neg hf⟩
        have BH := Lib.hid (behind_any H.out l.seg)
        clear hz hn
        go_enter Try.func38, Try.ntmps38
        go_wp2_with fail
        refine BH.out.mono ?_
        rintro e w1 ⟨rfl, hb1⟩
        have c3 := (H.out.below hb1).cell 3
        simp only [lcells] at c3
        have B1 := Lib.hid hb1
        clear hb1
        generalize nextV d.st.length l.seg = nx at *
        go_upto_region 6 with fail
        go_quiet (fail)
        go_wp2_with fail
        exact bodyPost_ret (v := .tuple #[.int .i64 nx, .int .i64 0, .bool (nx != l.start)]) (by simp [results, Try.results38, go_sem]) rfl
          ⟨_, _, by rw [hP.out.1]; rfl, below_drewN B1.out _, fun _ => ⟨hP.out.2.1.symm, hP.out.2.2.symm⟩⟩

set_option maxRecDepth 100000 in
set_option maxHeartbeats 1000000 in
theorem left_any {w : World} {lb g : Nat} {l : Lg} {d : Dk} {F : Nat → Prop} (h : IsLog w lb g l d F) :
    Calls Try.prog 19 #[.pointer (some ⟨lb, 0, none⟩)] w fun e w' => e = .returned (.int .i64 (l.left d.st.length)) ∧ Below w.heap.size w w' := by
  have H := Lib.hid h
  have c0 := h.cell 0
  simp only [lcells] at c0
  have SG := Lib.hid (fun w' => Area.segs_any (d.st.length : Int) w')
  have HL : Hid (l.left d.st.length = (segsN d.st.length - usedV d.st.length l.start l.seg) * 16 + 16 - l.taken) := Lib.hid rfl
  have hsn := segsN_le (d.st.length : Int)
  have ht0 := h.ok.t0
  have ht1 := h.ok.t1
  have hu : 0 ≤ usedV d.st.length l.start l.seg ∧ usedV d.st.length l.start l.seg ≤ 31 := by
    unfold usedV
    split
    · rename_i hh
      obtain ⟨-, -, -, -, e5⟩ := okB_in hh.1
      have hk := okB_in hh.1
      have hp : 0 < segsN d.st.length := by omega
      have := Int.emod_nonneg (l.seg - l.start) (by omega : segsN d.st.length ≠ 0)
      have := Int.emod_lt_of_pos (l.seg - l.start) hp
      omega
    · omega
  obtain ⟨hu0, hu1⟩ := hu
  obtain ⟨hs0, hs1⟩ := hsn
  have HB : Hid ((0 ≤ usedV d.st.length l.start l.seg ∧ usedV d.st.length l.start l.seg ≤ 31) ∧ 0 ≤ segsN d.st.length ∧ segsN d.st.length ≤ 30 ∧ 0 ≤ l.taken ∧ l.taken ≤ 16) := Lib.hid ⟨⟨hu0, hu1⟩, hs0, hs1, ht0, ht1⟩
  clear h hu0 hu1 hs0 hs1 ht0 ht1
  go_enter Try.func19, Try.ntmps19
  go_wp2_with fail
  refine (len_any H.out.disk).mono ?_
  rintro e w1 ⟨rfl, rfl⟩
  go_wp2_with fail
  refine (SG.out w).mono ?_
  rintro e w1 ⟨rfl, rfl⟩
  go_upto_region 2 with fail
  have CC : Hid (∀ w', Below w.heap.size w w' → w'.cell? ⟨lb, 0, none⟩ = some (.pointer (some ⟨g, 0, none⟩)) ∧ w'.cell? ⟨lb, 3, none⟩ = some (.int .i64 l.start) ∧ w'.cell? ⟨lb, 4, none⟩ = some (.int .i64 l.seg)) := Lib.hid (fun w' hb =>
    ⟨(H.out.below hb).cell 0, (H.out.below hb).cell 3, (H.out.below hb).cell 4⟩)
  have HD : Hid (IsDisk w.drew g d F) := Lib.hid (H.out.disk.below (Fg.below_dr (Below.refl _ _)))
  obtain ⟨x0, x3, x4⟩ := CC.out w (Below.refl _ _)
  go_region_held3 (fun w' => w'.cell? ⟨lb, 0, none⟩ = some (.pointer (some ⟨g, 0, none⟩)) ∧ w'.cell? ⟨lb, 3, none⟩ = some (.int .i64 l.start) ∧ w'.cell? ⟨lb, 4, none⟩ = some (.int .i64 l.seg)) (first | exact CC.out _ (Fg.below_dr (Below.refl _ _)) | exact CC.out _ HX.out)
    (first
      | (go_at_call 35; refine (len_any HD.out).mono ?_; rintro e w3 ⟨rfl, rfl⟩)
      | (go_at_call 44; refine (Area.used_any _ _ _ _).mono ?_; rintro e w4 ⟨rfl, hb4⟩; have HX : Hid (Below w.heap.size w w4) := Lib.hid ((Fg.below_dr (Below.refl _ _)).trans hb4); clear hb4))
  clear c0 x0 x3 x4
  have hI := HX.out
  have c5 := (H.out.below hI).cell 5
  simp only [lcells] at c5
  obtain ⟨⟨hu0, hu1⟩, hs0, hs1, ht0, ht1⟩ := HB.out
  have BI := Lib.hid hI
  clear hI
  generalize segsN d.st.length = sn at *
  generalize usedV d.st.length l.start l.seg = un at *
  go_wp2_with fail
  go_ret
  exact ⟨by rw [HL.out]; simp, BI.out⟩
theorem many_range (n : Int) : 0 ≤ secs n ∧ secs n ≤ 12 := secs_range n
theorem room_any {w : World} {lb g : Nat} {l : Lg} {d : Dk} {F : Nat → Prop} (h : IsLog w lb g l d F) (n : Int) (hn : -9223372036854775808 ≤ n ∧ n ≤ 9223372036854775807) :
    Calls Try.prog 20 #[.pointer (some ⟨lb, 0, none⟩), .int .i64 n] w fun e w' => e = .returned (.bool (l.placeOk d.st.length (secs n))) ∧ Below w.heap.size w w' := by
  have SZ := Lib.hid (size_any n hn w)
  have PL := Lib.hid (place_any h (secs n) (secs_range n))
  clear h
  go_enter Try.func20, Try.ntmps20
  go_wp2_with fail
  refine SZ.out.mono ?_
  rintro e w1 ⟨rfl, rfl⟩
  go_wp2_with fail
  refine PL.out.mono ?_
  rintro e w1 ⟨a, b, rfl, hb, -⟩
  have HB := Lib.hid hb
  clear hb
  obtain ⟨ok, hok⟩ : ∃ ok, l.placeOk d.st.length (secs n) = ok := ⟨_, rfl⟩
  rw [hok]
  have HOK := Lib.hid hok
  clear hok
  go_wp2_with fail
  go_ret
  exact ⟨by rw [HOK.out]; rfl, HB.out⟩
end Go.Proofs.Ytogkibikghbghaa.Wal
