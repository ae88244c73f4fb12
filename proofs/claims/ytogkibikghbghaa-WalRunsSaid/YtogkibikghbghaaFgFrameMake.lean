/- Contract of frame's Make. Conditions: none beyond each lemma's own hypotheses. -/
import Derived.Test.YtogkibikghbghaaFgFrameNum
import Derived.Test.YtogkibikghbghaaFgWords
import Derived.Laws.CopyRow
set_option linter.unusedVariables false
set_option linter.unusedSimpArgs false
namespace Go.Proofs.Ytogkibikghbghaa.Frame
open Go.RowKit Go.Proofs.Ytogkibikghbghaa.Fg Go.Proofs.Ytogkibikghbghaa.Crc Go.Proofs.Ytogkibikghbghaa.Disk

/-- Bytes, or parts, that a slice reads as. -/
def BW (l : List Int) (u : Value) (w : World) : Prop := ∃ A c, u = .slice A l.length c ∧ Fg.Src w A l.length c (bv l)
def PW (n : Nat) (ls : List (List Int)) (u : Value) (w : World) : Prop := ∃ A c, u = .slice A n c ∧ Parts w A c ls ∧ ls.length = n
theorem bw_stand {l : List Int} {I : World → Prop} : ∀ (u : Value) (w w' : World), BW l u w → I w → Below w.heap.size w w' → BW l u w' := by
  rintro u w w' ⟨A, c, e, h⟩ _ hb
  exact ⟨A, c, e, h.same fun ad had hne => hb.block _ (h.lt had hne)⟩
theorem pw_stand {n : Nat} {ls : List (List Int)} {I : World → Prop} : ∀ (u : Value) (w w' : World), PW n ls u w → I w → Below w.heap.size w w' → PW n ls u w' := by
  rintro u w w' ⟨A, c, e, h, hn⟩ _ hb
  exact ⟨A, c, e, h.same fun _ hk => hb.block _ hk, hn⟩
theorem concat_bw {n : Nat} (ls : List (List Int)) (l : List Int) (hf : ls.flatten = l) (hn : ls.length = n) (hl : n ≤ 1000) (hb : l.length ≤ 140737488355328) (A : Option Addr) (c : Nat) (w : World) (hs : Parts w A c ls) :
    Calls Try.prog 60 #[.slice A n c] w fun e w' => ∃ v, e = .returned v ∧ BW l v w' ∧ Below w.heap.size w w' := by
  subst hf hn
  refine (concat_any ls hl hb A c w hs).mono ?_
  rintro e w' ⟨v, rfl, ho, hb⟩
  obtain ⟨A6, c6, rfl, -⟩ := own_form ho
  exact ⟨_, rfl, ⟨A6, c6, rfl, Src.of_own ho⟩, hb⟩
theorem seal_bw (l : List Int) (hb : Small l) (hn : l.length ≤ 100000) (A : Option Addr) (c : Nat) (w : World) (hs : Fg.Src w A l.length c (bv l)) :
    Calls Try.prog 59 #[.slice A l.length c] w fun e w' => ∃ v, e = .returned v ∧ BW (sealed l) v w' ∧ Below w.heap.size w w' := by
  refine (seal_any l hb hn A c w hs).mono ?_
  rintro e w' ⟨A6, c6, rfl, ho, hb⟩
  exact ⟨_, rfl, ⟨A6, c6, by rw [sealed_length], by rw [sealed_length]; exact Src.of_own ho⟩, hb⟩
theorem parts_four {w : World} {A1 A2 A3 A4 : Option Addr} {c1 c2 c3 c4 : Nat} {l1 l2 l3 l4 : List Int} {t : TypeId} (h1 : Fg.Src w A1 l1.length c1 (bv l1)) (h2 : Fg.Src w A2 l2.length c2 (bv l2)) (h3 : Fg.Src w A3 l3.length c3 (bv l3)) (h4 : Fg.Src w A4 l4.length c4 (bv l4)) :
    Parts (w.alloc (.cells #[.slice A1 l1.length c1, .slice A2 l2.length c2, .slice A3 l3.length c3, .slice A4 l4.length c4] t)) (some ⟨w.heap.size, 0, none⟩) 4 [l1, l2, l3, l4] :=
  parts_new w [.slice A1 l1.length c1, .slice A2 l2.length c2, .slice A3 l3.length c3, .slice A4 l4.length c4] [l1, l2, l3, l4] t rfl (by simp) (fun j x m hx hm => by
    match j, hx, hm with
    | 0, hx, hm => injection hx with hx; injection hm with hm; subst hx hm; exact ⟨_, _, rfl, h1⟩
    | 1, hx, hm => injection hx with hx; injection hm with hm; subst hx hm; exact ⟨_, _, rfl, h2⟩
    | 2, hx, hm => injection hx with hx; injection hm with hm; subst hx hm; exact ⟨_, _, rfl, h3⟩
    | 3, hx, hm => injection hx with hx; injection hm with hm; subst hx hm; exact ⟨_, _, rfl, h4⟩)

theorem num_bw (n : Int) (h0 : 0 ≤ n) (h1 : n < 18446744073709551616) (k : Nat) (hk : 0 < k) (hk8 : k ≤ 8) (K : Int) (hK : (k : Int) = K) (w : World) :
    Calls Try.prog 61 #[.int .u64 n, .int .i64 K] w fun e w' => ∃ v, e = .returned v ∧ BW (be k n) v w' ∧ Below w.heap.size w w' := by
  subst hK
  refine (number_any n h0 h1 k hk hk8 w).mono ?_
  rintro e w' ⟨A, c, rfl, ho, hb⟩
  exact ⟨_, rfl, ⟨A, c, by rw [be_length], by rw [be_length]; exact Src.of_own ho⟩, hb⟩

theorem pw_four {w : World} {A1 A2 A3 A4 : Option Addr} {c1 c2 c3 c4 : Nat} {l1 l2 l3 l4 : List Int} {t : TypeId} (h1 : Fg.Src w A1 l1.length c1 (bv l1)) (h2 : Fg.Src w A2 l2.length c2 (bv l2)) (h3 : Fg.Src w A3 l3.length c3 (bv l3)) (h4 : Fg.Src w A4 l4.length c4 (bv l4)) :
    PW 4 [l1, l2, l3, l4] (.slice (some ⟨w.heap.size, 0, none⟩) 4 4) (w.alloc (.cells #[.slice A1 l1.length c1, .slice A2 l2.length c2, .slice A3 l3.length c3, .slice A4 l4.length c4] t)) :=
  ⟨_, _, rfl, parts_four h1 h2 h3 h4, rfl⟩

/-- A record as a value. -/
def recv (A : Option Addr) (c : Nat) (r : Rec) : Value := .agg #[.int .u64 r.seq, .int .u32 r.epoch, .slice A r.pay.length c]
theorem make_secs (n : Nat) (hn : n ≤ 512) (u : World) : (Instr.makeSlice 56 (.int .i64 n) (.int .i64 n)).run Try.prog u =
    .ok (.slice (some ⟨u.heap.size, 0, none⟩) n n) (u.alloc (.cells (List.replicate n (bv noSec)).flatten.toArray 77)) :=
  run_make_rows Try.underlying56 secInfo (by simp [bv, noSec]) n (by omega) (by omega) u
/-- The rows when j of n are made. -/
def rowsAt (b : List Int) (n j : Nat) : List (List Int) := (rows64 b n).take j ++ List.replicate (n - j) noSec
theorem rowsAt_64 (b : List Int) (n j : Nat) : ∀ s ∈ rowsAt b n j, s.length = 64 := by
  intro s hs
  rcases List.mem_append.1 hs with hs | hs
  · exact rows64_64 _ _ s (List.mem_of_mem_take hs)
  · rw [(List.mem_replicate.1 hs).2]; exact noSec64
theorem rowsAt_length {b : List Int} {n j : Nat} (hj : j ≤ n) : (rowsAt b n j).length = n := by
  simp [rowsAt, rows64_length]; omega
theorem rowsAt_step {b : List Int} {n j : Nat} (hj : j < n) : rowsAt b n (j + 1) = (rowsAt b n j).set j (pad ((b.drop (64 * j)).take 64)) := by
  have hl : ((rows64 b n).take j).length = j := by rw [List.length_take, rows64_length]; omega
  rw [rowsAt, rowsAt, List.set_append, if_neg (by omega), hl, Nat.sub_self, List.take_add_one, rows64_get n b j hj, show n - j = (n - (j + 1)) + 1 by omega, List.replicate_succ]
  simp
theorem rowsAt_get {b : List Int} {n j : Nat} (hj : j < n) : (rowsAt b n j)[j]? = some noSec := by
  have hl : ((rows64 b n).take j).length = j := by rw [List.length_take, rows64_length]; omega
  rw [rowsAt, List.getElem?_append_right (by omega), hl, Nat.sub_self, show n - j = (n - (j + 1)) + 1 by omega, List.replicate_succ]
  rfl
theorem rowsAt_end (b : List Int) (n : Nat) : rowsAt b n n = rows64 b n := by
  simp [rowsAt, List.take_of_length_le, rows64_length]
/-- Bytes laid over the head of a row of noughts. -/
theorem flat_lay {rows : List (List Int)} (h : ∀ s ∈ rows, s.length = 64) {j : Nat} (hj : rows[j]? = some noSec) (x : List Int) (hx : x.length ≤ 64) :
    (sv rows).flatten.take (j * 64) ++ (bv x ++ (sv rows).flatten.drop (j * 64 + (bv x).length)) = (sv (rows.set j (pad x))).flatten := by
  have hlt : j < (sv rows).length := by
    have := (List.getElem?_eq_some_iff.1 hj).1
    simpa [sv] using this
  have hset := flat_set (sv_len h) j hlt (bv (pad x)) (by rw [bv_length, pad_length hx])
  have e : sv (rows.set j (pad x)) = (sv rows).set j (bv (pad x)) := by simp [sv, List.map_set]
  rw [e, ← hset]
  congr 1
  rw [pad, bv_append, List.append_assoc]
  congr 1
  rw [bv_length]
  have hr : (sv rows)[j]? = some (bv noSec) := by simp [sv, hj]
  have hd : (sv rows).flatten.drop (j * 64) = bv noSec ++ ((sv rows).drop (j + 1)).flatten := by
    rw [flat_drop (sv_len h) j, List.drop_eq_getElem_cons hlt, List.flatten_cons]
    rw [List.getElem?_eq_getElem hlt] at hr
    injection hr with hr
    rw [hr]
  rw [← List.drop_drop, hd, show j * 64 + 64 = (j + 1) * 64 by omega, flat_drop (sv_len h) (j + 1), List.drop_append, bv_length, noSec64, show x.length - 64 = 0 by omega]
  congr 1
  have hz : bv noSec = List.replicate 64 (Value.int .u8 0) := List.map_replicate
  rw [hz, List.drop_replicate]
  exact List.map_replicate.symm

def MadeE (r : Rec) (w : World) (e : Ending) (w' : World) : Prop :=
  ∃ A' c', e = .returned (.tuple #[.slice A' r.made.length c', .int .i64 r.err]) ∧ w'.ownsRow w.heap.size 77 64 (.slice A' r.made.length c') r.made.length (sv r.made).flatten ∧ Below w.heap.size w w'

theorem own_of_flat {w : World} {q n k base : Nat} {t : TypeId} {rows : List (List Value)} (h : Flat w q t rows) (hk : ∀ s ∈ rows, s.length = k) (hl : rows.length = n) (hb : base ≤ q) (hm : n ≤ maxLen) :
    w.ownsRow base t k (.slice (some ⟨q, 0, none⟩) n n) n rows.flatten := by
  have hf := flat_len hk
  rw [hl] at hf
  exact ⟨hf, .inr ⟨q, n, _, rfl, hb, h, Nat.le_refl _, hm, by rw [List.size_toArray, hf], List.take_of_length_le (by rw [hf]; exact Nat.le_refl _)⟩⟩
theorem MadeE.no {r : Rec} {w w' : World} (h : ¬ r.good) (hb : Below w.heap.size w w') : MadeE r w (.returned (.tuple #[.slice none 0 0, .int .i64 81])) w' := by
  refine ⟨none, 0, ?_, ?_, hb⟩
  · rw [Rec.made_nil h, Rec.err, if_neg h]; rfl
  · rw [Rec.made_nil h]; exact World.ownsRow_nil _ _ _ _

set_option maxRecDepth 100000 in
set_option maxHeartbeats 2000000 in
theorem make_any (r : Rec) (hok : r.ok) (hp : r.pay.length ≤ 100000) (A : Option Addr) (c : Nat) (w : World) (hs : Fg.Src w A r.pay.length c (bv r.pay)) :
    Calls Try.prog 37 #[recv A c r] w (MadeE r w) := by
  have hlen : (r.pay.length : Int) ≤ 100000 := by omega
  have SA0 := Lib.hid hs
  have hm : Hid (secs (r.pay.length : Int) = (r.many : Int)) := Lib.hid (by have := secs_range r.pay.length; unfold Rec.many; omega)
  have hq0 := hok.seq0
  have hq1 := hok.seq1
  have hq2 := hok.epoch0
  have hq3 := hok.epoch1
  clear hs
  unfold recv
  go_enter Try.func37, Try.ntmps37
  go_wp2_with fail
  refine (size_any _ (by omega) _).mono ?_
  rintro e w' ⟨rfl, rfl⟩
  rw [hm.out]
  obtain ⟨w1, hw1⟩ : ∃ w1, w.alloc (.cells #[.int .u64 r.seq, .int .u32 r.epoch, .slice A r.pay.length c] 40) = w1 := ⟨_, rfl⟩
  rw [hw1]
  have B1 : Hid (Below w.heap.size w w1) := Lib.hid (by rw [← hw1]; exact (Below.refl _ _).alloc (Nat.le_refl _) _)
  have HG : Hid (w1.heap[w.heap.size]? = some (.cells #[.int .u64 r.seq, .int .u32 r.epoch, .slice A r.pay.length c] 40)) := Lib.hid (by rw [← hw1]; exact heap_alloc_at w _)
  have hg : w.heap.size < w1.heap.size := block_lt HG.out
  have C0 : Hid (∀ w', Below w1.heap.size w1 w' → w'.cell? ⟨w.heap.size, 0, none⟩ = some (.int .u64 r.seq)) := Lib.hid (fun w' hb => (hb.cell (p := ⟨w.heap.size, 0, none⟩) hg).trans (cell_of_block HG.out 0))
  have C1 : Hid (∀ w', Below w1.heap.size w1 w' → w'.cell? ⟨w.heap.size, 1, none⟩ = some (.int .u32 r.epoch)) := Lib.hid (fun w' hb => (hb.cell (p := ⟨w.heap.size, 1, none⟩) hg).trans (cell_of_block HG.out 1))
  have C2 : Hid (∀ w', Below w1.heap.size w1 w' → w'.cell? ⟨w.heap.size, 2, none⟩ = some (.slice A r.pay.length c)) := Lib.hid (fun w' hb => (hb.cell (p := ⟨w.heap.size, 2, none⟩) hg).trans (cell_of_block HG.out 2))
  have SA : Hid (∀ w', Below w1.heap.size w1 w' → Fg.Src w' A r.pay.length c (bv r.pay)) := Lib.hid (fun w' hb => SA0.out.same fun ad had hne => ((B1.out.trans (hb.mono B1.out.size)).block _ (SA0.out.lt had hne)))
  have PL : Hid ([be 2 (r.pay.length : Int), be 8 r.seq, be 4 r.epoch, r.pay].flatten = r.plain) := Lib.hid (by simp [Rec.plain, Rec.head])
  have c0 := C0.out w1 (Below.refl _ _)
  clear hw1
  by_cases h7 : 700 < r.pay.length
  · have hmz : r.many = 0 := by have := hm.out; rw [secs, if_neg (by omega)] at this; omega
    have HN : Hid (¬ r.good) := Lib.hid (fun h => by have := h.1; omega)
    rw [hmz]
    clear hm hmz
    go_wp2_with fail
    exact bodyPost_ret (v := .tuple #[.slice none 0 0, .int .i64 81]) (by simp [results, Try.results37, go_sem]) rfl (MadeE.no HN.out B1.out)
  · by_cases h0 : r.seq = 0
    · have HN : Hid (¬ r.good) := Lib.hid (fun h => h.2 h0)
      have hseq : (r.seq == 0) = true := beq_iff_eq.2 h0
      have hmany : r.many = (r.pay.length + 81) / 64 := Rec.many_of (by omega)
      have hm0 : 0 < r.many := by omega
      have hm1 : (r.many : Int) ≤ 12 := by omega
      clear h0 hmany
      go_wp2_with fail
      exact bodyPost_ret (v := .tuple #[.slice none 0 0, .int .i64 81]) (by simp [results, Try.results37, go_sem]) rfl (MadeE.no HN.out B1.out)
    · have hgd : r.good := ⟨by omega, h0⟩
      have hmany := Rec.many_of hgd.1
      have hm0 : 0 < r.many := by omega
      have hm1 : (r.many : Int) ≤ 12 := by omega
      have h7' : (r.pay.length : Int) ≤ 700 := by omega
      have hseq : (r.seq == 0) = false := beq_eq_false_iff_ne.2 h0
      have hmz : ((r.many : Int) == 0) = false := beq_eq_false_iff_ne.2 (by omega)
      have HMY := Lib.hid hmany
      have HGD := Lib.hid hgd
      clear hmany hgd h0
      have hS : Hid (r.pay.length + 18 = r.bytes.length) := Lib.hid (by rw [Rec.bytes_length])
      have HMK := Lib.hid (fun u => make_secs r.many (by omega) u)
      have HP1 : Hid (r.plain.length ≤ 140737488355328) := Lib.hid (by rw [Rec.plain_length]; omega)
      have HP2 : Hid (Small r.plain) := Lib.hid (Rec.plain_small hok.small)
      have HP3 : Hid (r.plain.length ≤ 100000) := Lib.hid (by rw [Rec.plain_length]; omega)
      have EW : Hid (IntKind.u64.wrap (r.pay.length : Int) = r.pay.length) := Lib.hid (by rw [IntKind.wrap_u64]; omega)
      have EW2 : Hid (IntKind.u64.wrap r.epoch = r.epoch) := Lib.hid (by rw [IntKind.wrap_u64]; omega)
      go_upto_region 4 with fail
      have HM0 := Lib.hid hm0
      have HM1 := Lib.hid hm1
      clear hseq hmz c0 hm0 hm1 hq0 hq1 hlen hp h7
      -- region fm4
      apply wp_region_words (fun w w' => Below w.heap.size w w') (fun w' => Below w1.heap.size w1 w')
        [isVal _, isVal _, isVal _, isVal (.int .u64 (r.pay.length : Int)), BW (be 2 (r.pay.length : Int)), isVal _, isVal _, BW (be 8 r.seq), isVal _, isVal _, isVal (.int .u64 r.epoch), BW (be 4 r.epoch), isVal _, isVal _, PW 4 [be 2 (r.pay.length : Int), be 8 r.seq, be 4 r.epoch, r.pay], BW r.plain, BW r.bytes, BW r.bytes]
        [[], [0], [1], [2], [3], [], [5], [6], [], [8], [9], [10], [], [12], [4, 7, 11, 13], [14], [15], [16]] [0, 1, 2, 3, 4, 5, 6, 7, 8, 9, 10, 11, 12, 13, 14, 15, 16, 17] (by kernel_rfl) (by kernel_rfl) ?hF ?stand ?hI ?steps ?fin
      case hF => intro v; simp [fillFrom, Act.put]; rfl
      case stand =>
        repeat' (first | exact trivial | (refine And.intro ?_ ?_))
        all_goals first | exact bw_stand | exact pw_stand | (intro u w w' h _ _; exact h)
      case hI => exact Fg.below_dr (Below.refl _ _)
      case steps =>
        refine And.intro ?_ ?_
        · intro v w' hI hd K hK
          simp only [allOf, word, List.getD_cons_zero, List.getD_cons_succ, isVal, and_true, true_and] at hd
          have HK := Lib.hid hK
          clear hK
          go_simp
          exact HK.out _ _ rfl hI (Below.refl _ _)
        refine And.intro ?_ ?_
        · intro v w' hI hd K hK
          simp only [allOf, word, List.getD_cons_zero, List.getD_cons_succ, isVal, and_true, true_and] at hd
          simp only [hd] at hK
          have qc := (C2.out w' hI)
          have HK := Lib.hid hK
          clear hK
          go_simp
          exact HK.out _ _ rfl hI (Below.refl _ _)
        refine And.intro ?_ ?_
        · intro v w' hI hd K hK
          simp only [allOf, word, List.getD_cons_zero, List.getD_cons_succ, isVal, and_true, true_and] at hd
          try simp only [hd] at hK
          have HK := Lib.hid hK
          clear hK
          go_simp
          exact HK.out _ _ rfl hI (Below.refl _ _)
        refine And.intro ?_ ?_
        · intro v w' hI hd K hK
          simp only [allOf, word, List.getD_cons_zero, List.getD_cons_succ, isVal, and_true, true_and] at hd
          try simp only [hd] at hK
          have HK := Lib.hid hK
          clear hK
          go_simp
          exact HK.out _ _ (by first | rfl | (rw [EW.out]; exact rfl)) hI (Below.refl _ _)
        refine And.intro ?_ ?_
        · intro v w' hI hd K hK
          simp only [allOf, word, List.getD_cons_zero, List.getD_cons_succ, isVal, and_true, true_and] at hd
          try simp only [hd] at hK
          have HK := Lib.hid hK
          clear hK
          go_simp
          refine (num_bw (r.pay.length : Int) (by omega) (by omega) 2 (by decide) (by decide) _ rfl w').mono ?_
          rintro e w5 ⟨v5, rfl, hw, hb⟩
          exact HK.out _ _ hw (hI.trans (hb.mono hI.size)) hb
        refine And.intro ?_ ?_
        · intro v w' hI hd K hK
          simp only [allOf, word, List.getD_cons_zero, List.getD_cons_succ, isVal, and_true, true_and] at hd
          have HK := Lib.hid hK
          clear hK
          go_simp
          exact HK.out _ _ rfl hI (Below.refl _ _)
        refine And.intro ?_ ?_
        · intro v w' hI hd K hK
          simp only [allOf, word, List.getD_cons_zero, List.getD_cons_succ, isVal, and_true, true_and] at hd
          simp only [hd] at hK
          have qc := (C0.out w' hI)
          have HK := Lib.hid hK
          clear hK
          go_simp
          exact HK.out _ _ rfl hI (Below.refl _ _)
        refine And.intro ?_ ?_
        · intro v w' hI hd K hK
          simp only [allOf, word, List.getD_cons_zero, List.getD_cons_succ, isVal, and_true, true_and] at hd
          try simp only [hd] at hK
          have HK := Lib.hid hK
          clear hK
          go_simp
          refine (num_bw r.seq hok.seq0 hok.seq1 8 (by decide) (by decide) _ rfl w').mono ?_
          rintro e w5 ⟨v5, rfl, hw, hb⟩
          exact HK.out _ _ hw (hI.trans (hb.mono hI.size)) hb
        refine And.intro ?_ ?_
        · intro v w' hI hd K hK
          simp only [allOf, word, List.getD_cons_zero, List.getD_cons_succ, isVal, and_true, true_and] at hd
          have HK := Lib.hid hK
          clear hK
          go_simp
          exact HK.out _ _ rfl hI (Below.refl _ _)
        refine And.intro ?_ ?_
        · intro v w' hI hd K hK
          simp only [allOf, word, List.getD_cons_zero, List.getD_cons_succ, isVal, and_true, true_and] at hd
          simp only [hd] at hK
          have qc := (C1.out w' hI)
          have HK := Lib.hid hK
          clear hK
          go_simp
          exact HK.out _ _ rfl hI (Below.refl _ _)
        refine And.intro ?_ ?_
        · intro v w' hI hd K hK
          simp only [allOf, word, List.getD_cons_zero, List.getD_cons_succ, isVal, and_true, true_and] at hd
          try simp only [hd] at hK
          have HK := Lib.hid hK
          clear hK
          go_simp
          exact HK.out _ _ (by first | rfl | (rw [EW2.out]; exact rfl)) hI (Below.refl _ _)
        refine And.intro ?_ ?_
        · intro v w' hI hd K hK
          simp only [allOf, word, List.getD_cons_zero, List.getD_cons_succ, isVal, and_true, true_and] at hd
          try simp only [hd] at hK
          have HK := Lib.hid hK
          clear hK
          go_simp
          refine (num_bw r.epoch hok.epoch0 (by have := hok.epoch1; omega) 4 (by decide) (by decide) _ rfl w').mono ?_
          rintro e w5 ⟨v5, rfl, hw, hb⟩
          exact HK.out _ _ hw (hI.trans (hb.mono hI.size)) hb
        refine And.intro ?_ ?_
        · intro v w' hI hd K hK
          simp only [allOf, word, List.getD_cons_zero, List.getD_cons_succ, isVal, and_true, true_and] at hd
          have HK := Lib.hid hK
          clear hK
          go_simp
          exact HK.out _ _ rfl hI (Below.refl _ _)
        refine And.intro ?_ ?_
        · intro v w' hI hd K hK
          simp only [allOf, word, List.getD_cons_zero, List.getD_cons_succ, isVal, and_true, true_and] at hd
          simp only [hd] at hK
          have qc := (C2.out w' hI)
          have HK := Lib.hid hK
          clear hK
          go_simp
          exact HK.out _ _ rfl hI (Below.refl _ _)
        refine And.intro ?_ ?_
        · intro v w' hI hd K hK
          simp only [allOf, word, List.getD_cons_zero, List.getD_cons_succ, isVal, and_true, true_and] at hd
          obtain ⟨⟨A5, c5, e5, s5⟩, ⟨A6, c6, e6, s6⟩, ⟨A7, c7, e7, s7⟩, h13⟩ := hd
          simp only [e5, e6, e7, h13] at hK
          have HK := Lib.hid hK
          clear hK
          go_simp
          exact HK.out _ _ (pw_four s5 s6 s7 (SA.out w' hI)) (hI.alloc hI.size _) ((Below.refl _ _).alloc (Nat.le_refl _) _)
        refine And.intro ?_ ?_
        · intro v w' hI hd K hK
          simp only [allOf, word, List.getD_cons_zero, List.getD_cons_succ, isVal, and_true, true_and] at hd
          obtain ⟨A5, c5, e5, s5, -⟩ := hd
          simp only [e5] at hK
          have HK := Lib.hid hK
          clear hK
          go_simp
          refine (concat_bw _ _ PL.out rfl (by simp) HP1.out A5 c5 w' s5).mono ?_
          rintro e w5 ⟨v5, rfl, hw, hb⟩
          exact HK.out _ _ hw (hI.trans (hb.mono hI.size)) hb
        refine And.intro ?_ ?_
        · intro v w' hI hd K hK
          simp only [allOf, word, List.getD_cons_zero, List.getD_cons_succ, isVal, and_true, true_and] at hd
          obtain ⟨A5, c5, e5, s5⟩ := hd
          simp only [e5] at hK
          have HK := Lib.hid hK
          clear hK
          go_simp
          refine (seal_bw r.plain HP2.out HP3.out A5 c5 w' s5).mono ?_
          rintro e w5 ⟨v5, rfl, hw, hb⟩
          exact HK.out _ _ hw (hI.trans (hb.mono hI.size)) hb
        refine And.intro ?_ ?_
        · intro v w' hI hd K hK
          simp only [allOf, word, List.getD_cons_zero, List.getD_cons_succ, isVal, and_true, true_and] at hd
          obtain ⟨A5, c5, e5, s5⟩ := hd
          simp only [e5] at hK
          have HK := Lib.hid hK
          clear hK
          go_simp
          exact HK.out _ _ ⟨A5, c5, rfl, s5⟩ hI (Below.refl _ _)
        exact trivial
      intro v w4 hI hd
      simp only [allOf, word, List.getD_cons_zero, List.getD_cons_succ, isVal, and_true, true_and] at hd
      obtain ⟨h0, h1, h2, h3, ⟨A5, c5, h4, -⟩, h5, h6, ⟨A6, c6, h7, -⟩, h8, h9, h10, ⟨A7, c7, h11, -⟩, h12, h13, ⟨A8, c8, h14, -⟩, ⟨A9, c9, h15, -⟩, ⟨Ax, cx, h16, -⟩, ⟨Ab, cb, h17, SB⟩⟩ := hd
      simp only [h0, h1, h2, h3, h4, h5, h6, h7, h8, h9, h10, h11, h12, h13, h14, h15, h16, h17]
      clear h0 h1 h2 h3 h4 h5 h6 h7 h8 h9 h10 h11 h12 h13 h14 h15 h16 h17
      -- end region fm4
      clear SA PL C0 C1 C2 HP1 HP2 HP3 EW EW2
      have B4 : Hid (Below w.heap.size w w4) := Lib.hid (B1.out.trans (hI.mono B1.out.size))
      have SBH := Lib.hid SB
      have HS2 := Lib.hid hS.out.symm
      have hbl : (r.bytes.length : Int) = (r.pay.length : Int) + 18 := by have := hS.out; omega
      have hmy : (r.many : Int) = ((r.pay.length : Int) + 81) / 64 := by have := HMY.out; omega
      obtain ⟨m, hmm⟩ : ∃ m, r.many = m := ⟨_, rfl⟩
      obtain ⟨bl, hbb⟩ : ∃ bl, r.bytes.length = bl := ⟨_, rfl⟩
      have HMM := Lib.hid hmm
      have HBB := Lib.hid hbb
      rw [hmm] at hmy
      rw [hbb] at hbl
      have hmk := HMK.out
      rw [hmm] at hmk
      simp only [hmm, hbb]
      clear hI SB hmm hbb hS
      have hm0 : 0 < m := by have := HM0.out; have := HMM.out; omega
      have hm1 : (m : Int) ≤ 12 := by omega
      have hb1 : (bl : Int) ≤ 718 := by omega
      have hb0 : 0 < bl := by omega
      have HMY2 := Lib.hid hmy
      have HBL2 := Lib.hid hbl
      have hcb : bl ≤ cb := by have := SBH.out.cap; have := HBB.out; omega
      clear hmy hbl h7' hq2 hq3
      obtain ⟨ad, rfl⟩ : ∃ ad, Ab = some ad := by
        cases Ab with
        | none => have := (SBH.out.nil rfl).1; have := HBB.out; omega
        | some ad => exact ⟨ad, rfl⟩
      go_wp2_with fail
      go_loopg [40] m (fun k i wr => ∃ j : Nat, j + k = m ∧ i = .int .i64 j ∧ Below w4.heap.size w4 wr ∧ Flat wr w4.heap.size 77 (sv (rowsAt r.bytes m j)))
      case atStart =>
        refine ⟨0, Nat.zero_add _, rfl, (Below.refl _ _).alloc (Nat.le_refl _) _, ?_⟩
        have e : sv (rowsAt r.bytes m 0) = List.replicate m (bv noSec) := by
          rw [rowsAt, List.take_zero, List.nil_append]; exact List.map_replicate
        unfold Flat
        rw [e]
        exact heap_alloc_at w4 _
      case round =>
        obtain ⟨j, hj, rfl, hbel, hfl⟩ := hrel
        have HBE := Lib.hid hbel
        have HFL := Lib.hid hfl
        clear hbel hfl hmk
        by_cases hlt : j < m
        · have hjb : (j : Int) * 64 ≤ bl := by have := HMY2.out; have := HBL2.out; omega
          have hjb' : (j : Int) ≤ 12 := by omega
          have hjlt : j * 64 < bl := by have := HMY2.out; have := HBL2.out; omega
          have hcne : ¬ cb = j * 64 := by omega
          have hx : ((r.bytes.drop (64 * j)).take 64).length ≤ 64 := by rw [List.length_take]; omega
          have hxl : (bv ((r.bytes.drop (64 * j)).take 64)).length = Nat.min (bl - j * 64) 64 := by
            rw [bv_length, List.length_take, List.length_drop, HBB.out, Nat.mul_comm j 64]; exact Nat.min_comm ..
          have hgl : (sv (rowsAt r.bytes m j)).flatten.length = m * 64 := by
            rw [flat_len (sv_len (rowsAt_64 _ _ _))]
            simp [sv, rowsAt_length (Nat.le_of_lt hlt)]
          have hfit : j * 64 + (bv ((r.bytes.drop (64 * j)).take 64)).length ≤ (sv (rowsAt r.bytes m j)).flatten.toArray.size := by
            have : (j + 1) * 64 ≤ m * 64 := Nat.mul_le_mul_right 64 hlt
            rw [List.size_toArray, hgl, bv_length]; omega
          have hcp := run_copy_row (P := Try.prog) wr.drew 37 37 3 5 w4.heap.size (j * 64) 64 64 (ad.add (j * 64)) (bl - j * 64) (cb - j * 64) _ 77 (bv ((r.bytes.drop (64 * j)).take 64))
            Try.underlying37 (by kernel_rfl) HFL.out hxl (fun q v hv => by
              rw [World.cell?_drew]
              have hs := SBH.out.same (w' := wr) (fun a had hne => HBE.out.block _ (SBH.out.lt had hne))
              rw [Addr.add_add]
              refine hs.cells ad rfl (j * 64 + q) v ?_
              simp only [bv, List.getElem?_map] at hv ⊢
              have hq : q < 64 := by
                rcases Nat.lt_or_ge q 64 with h | h
                · exact h
                · rw [List.getElem?_eq_none (by omega)] at hv; cases hv
              rw [List.getElem?_take_of_lt hq, List.getElem?_drop] at hv
              rw [Nat.mul_comm j 64]
              exact hv) hfit (bv_one _)
          rw [List.append_assoc] at hcp
          have FL2 : Hid (Flat (wr.drew.setRow w4.heap.size (((sv (rowsAt r.bytes m j)).flatten.toArray.toList).take (j * 64) ++ (bv ((r.bytes.drop (64 * j)).take 64) ++ ((sv (rowsAt r.bytes m j)).flatten.toArray.toList).drop (j * 64 + (bv ((r.bytes.drop (64 * j)).take 64)).length))).toArray) w4.heap.size 77 (sv (rowsAt r.bytes m (j + 1)))) := Lib.hid (by
            have h := setRow_at (w := wr.drew) ((((sv (rowsAt r.bytes m j)).flatten.toArray.toList).take (j * 64) ++ (bv ((r.bytes.drop (64 * j)).take 64) ++ ((sv (rowsAt r.bytes m j)).flatten.toArray.toList).drop (j * 64 + (bv ((r.bytes.drop (64 * j)).take 64)).length))).toArray) HFL.out
            rw [show ((sv (rowsAt r.bytes m j)).flatten.toArray.toList) = (sv (rowsAt r.bytes m j)).flatten from rfl] at h ⊢
            rw [flat_lay (rowsAt_64 _ _ _) (rowsAt_get hlt) _ hx, ← rowsAt_step hlt] at h ⊢
            exact h)
          have BE2 : Hid (∀ cs, Below w4.heap.size w4 (wr.drew.setRow w4.heap.size cs)) := Lib.hid (fun cs => below_setRow (Fg.below_dr HBE.out) (Nat.le_refl _) cs)
          clear hx hxl hgl hfit
          go_wp2_with fail
          go_region
          go_wp2_with fail
          go_roundg (gk - 1)
          case measure => omega
          case rel => exact ⟨j + 1, by omega, by go_num, BE2.out _, FL2.out⟩
        · obtain rfl : j = m := by omega
          have hmade : r.made = rowsAt r.bytes j j := by
            rw [rowsAt_end, Rec.made, if_pos HGD.out, HMM.out]
          have hml : r.made.length = j := by rw [Rec.made_length HGD.out, HMM.out]
          have herr : r.err = 0 := if_pos HGD.out
          have HO : Hid (wr.ownsRow w.heap.size 77 64 (.slice (some ⟨w4.heap.size, 0, none⟩) j j) j (sv r.made).flatten) := Lib.hid (by
            rw [hmade]
            exact own_of_flat HFL.out (sv_len (rowsAt_64 _ _ _)) (by simp [sv, rowsAt_length (Nat.le_refl j)]) B4.out.size (by simp only [maxLen]; omega))
          have HML := Lib.hid hml
          have HER := Lib.hid herr
          clear hmade hml herr
          go_wp2_with fail
          exact bodyPost_ret (v := .tuple #[.slice (some ⟨w4.heap.size, 0, none⟩) j j, .int .i64 0]) (by simp [results, Try.results37, go_sem]) rfl
            ⟨some ⟨w4.heap.size, 0, none⟩, j, by rw [HML.out, HER.out], by rw [HML.out]; exact HO.out, B4.out.trans (HBE.out.mono B4.out.size)⟩
end Go.Proofs.Ytogkibikghbghaa.Frame
