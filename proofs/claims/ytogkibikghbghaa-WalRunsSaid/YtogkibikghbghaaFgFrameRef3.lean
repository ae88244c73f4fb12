/- Contract of the document's Open for the frame layer. Conditions: none beyond each lemma's own hypotheses. -/
import Derived.Test.YtogkibikghbghaaFgFrameRef2
set_option linter.unusedVariables false
set_option linter.unusedSimpArgs false
namespace Go.Proofs.Ytogkibikghbghaa.Frame
open Go.RowKit Go.Proofs.Ytogkibikghbghaa.Fg Go.Proofs.Ytogkibikghbghaa.Crc Go.Proofs.Ytogkibikghbghaa.Disk

theorem val_two {F : List Int} (h : 2 ≤ F.length) : val (F.take 2) = 256 * (F[0]'(by omega)) + F[1]'(by omega) := by
  match F, h with
  | a :: b :: r, _ => simp [val]; omega
theorem SecsAt.take {w : World} {A : Option Addr} {c : Nat} {rows : List (List Int)} (h : SecsAt w A c rows) {m : Nat} (hm : m ≤ rows.length) : SecsAt w A c (rows.take m) := by
  have hl : (rows.take m).length = m := by rw [List.length_take]; omega
  refine ⟨?_, fun hne => h.form (fun e => hne (by rw [e]; simp)), h.ok.take m⟩
  rw [hl]
  refine ⟨fun hA => ⟨by have := (h.src.nil hA).1; omega, (h.src.nil hA).2⟩, by have := h.src.cap; omega, h.src.most, fun ad had j u hu => h.src.cells ad had j u ?_⟩
  have e : sv rows = sv (rows.take m) ++ sv (rows.drop m) := by
    unfold sv
    rw [← List.map_append, List.take_append_drop]
  rw [e, List.flatten_append, List.getElem?_append_left (List.getElem?_eq_some_iff.1 hu).1]
  exact hu
theorem SecsAt.of_own {w : World} {base c : Nat} {A : Option Addr} {rows : List (List Int)} (h : w.ownsRow base 77 64 (.slice A rows.length c) rows.length (sv rows).flatten) (hok : Secs rows) : SecsAt w A c rows := by
  refine ⟨Fg.Src.of_own h, fun _ ad had => ?_, hok⟩
  obtain ⟨A', c', hv, h1, h2, h3, h4⟩ := own_form h
  injection hv with e1 e2 e3
  subst e1
  obtain ⟨g, rfl, _⟩ := h4 ad had
  exact ⟨g, 0, rfl⟩
theorem pad_small {l : List Int} (h : Small l) : Small (pad l) := by
  intro x hx
  rcases List.mem_append.1 hx with hx | hx
  · exact h x hx
  · rw [(List.mem_replicate.1 hx).2]; omega
theorem rows64_small : ∀ (n : Nat) (l : List Int), Small l → ∀ r ∈ rows64 l n, Small r
  | 0, _, _, r, h => by cases h
  | n + 1, l, hl, r, h => by
    rcases List.mem_cons.1 h with rfl | h
    · exact pad_small (fun x hx => hl x (List.mem_of_mem_take hx))
    · exact rows64_small n _ (fun x hx => hl x (List.mem_of_mem_drop hx)) r h
theorem Rec.made_secs {r : Rec} (h : Small r.pay) : Secs r.made := by
  refine ⟨Rec.made_64 r, ?_⟩
  unfold Rec.made
  split
  · exact rows64_small _ _ (sealed_small (Rec.plain_small h))
  · intro s hs; cases hs
theorem val_take4 {l : List Int} (hs : Small l) (h4 : l.length ≤ 4) {j : Nat} (hj : j < l.length) :
    (0 ≤ val (l.take j) ∧ val (l.take j) < 16777216) ∧ (0 ≤ l[j] ∧ l[j] ≤ 255) ∧ val (l.take (j + 1)) = val (l.take j) * 256 + l[j] := by
  have h := val_range j (l.take j) (by rw [List.length_take]; omega) (fun x hx => hs x (List.mem_of_mem_take hx))
  have hp : (256 : Int) ^ j ≤ 256 ^ 3 := by
    have h := Nat.pow_le_pow_right (by decide : 0 < 256) (by omega : j ≤ 3)
    have e : ((256 ^ j : Nat) : Int) = (256 : Int) ^ j := by simp
    have e7 : ((256 ^ 3 : Nat) : Int) = (256 : Int) ^ 3 := by simp
    omega
  refine ⟨⟨h.1, Int.lt_of_lt_of_le h.2 hp⟩, hs _ (List.getElem_mem hj), ?_⟩
  rw [List.take_add_one, List.getElem?_eq_getElem hj]
  exact val_snoc _ _
theorem said_rec_ok {l : List (List Int)} (h : Secs l) (hlen : 14 ≤ l.flatten.length) : (said l).ok := by
  have hs := h.flat_small
  have tk : ∀ (a b : Nat), Small ((l.flatten.drop a).take b) := fun a b x hx => hs x (List.mem_of_mem_drop (List.mem_of_mem_take hx))
  have v1 := val_range 8 ((l.flatten.drop 2).take 8) (by rw [List.length_take, List.length_drop]; omega) (tk 2 8)
  have v2 := val_range 4 ((l.flatten.drop 10).take 4) (by rw [List.length_take, List.length_drop]; omega) (tk 10 4)
  exact ⟨v1.1, v1.2, v2.1, v2.2, tk 14 _⟩
/-- The end of a part of bytes that are read. -/
theorem src_mid {w : World} {g c N : Nat} {F : List Int} (h : Fg.Src w (some ⟨g, 0, none⟩) N c (bv F)) (hN : F.length = N) (a n : Nat) (hn : a + n ≤ N) : Fg.Src w (some ⟨g, a, none⟩) n (c - a) (bv ((F.drop a).take n)) := by
  subst hN
  have h2 := src_drop (l := F) (n := a) h (by omega)
  rw [← List.length_drop] at h2
  have h3 := src_take (n := n) h2 (by rw [List.length_drop]; omega)
  rw [Addr.add_lit, Nat.zero_add] at h3
  exact h3
theorem recZero : (Try.prog.info? 40).map (·.zero) = some (some (.agg #[.int .u64 0, .int .u32 0, .slice none 0 0])) := by kernel_rfl
set_option maxRecDepth 100000 in
set_option maxHeartbeats 8000000 in
theorem refopen_new (l : List (List Int)) (A : Option Addr) (c : Nat) (w : World) (hs : SecsAt w A c l) (hl : l.length ≤ 1000000) :
    Calls Try.prog 68 #[.slice A l.length c] w (OpenF l w) := by
  have hcap := hs.src.cap
  have HS := Lib.hid hs
  have K0 : Hid (((w.alloc (.cells #[.int .u64 0, .int .u32 0, .slice none 0 0] 40)).alloc (.cells #[] 5)).heap[w.heap.size]? = some (.cells #[.int .u64 0, .int .u32 0, .slice none 0 0] 40 (0, 0))) := Lib.hid (by
    rw [heap_alloc_old _ _ (by simp)]; exact heap_alloc_at w _)
  have E0 : Hid (((w.alloc (.cells #[.int .u64 0, .int .u32 0, .slice none 0 0] 40)).alloc (.cells #[] 5)).ownsRow (w.heap.size + 1) 5 1 (.slice (some ⟨w.heap.size + 1, 0, none⟩) 0 0) 0 []) := Lib.hid (by
    have := World.ownsRow_made (e := 5) (size := 1) (w.alloc (.cells #[.int .u64 0, .int .u32 0, .slice none 0 0] 40)) #[] 0 (Nat.le_refl _) (Nat.zero_le _) rfl
    simpa using this)
  have B0 : Hid (Below w.heap.size w ((w.alloc (.cells #[.int .u64 0, .int .u32 0, .slice none 0 0] 40)).alloc (.cells #[] 5))) := Lib.hid (((Below.refl _ _).alloc (Nat.le_refl _) _).alloc (by simp) _)
  have Z0 : Hid (((w.alloc (.cells #[.int .u64 0, .int .u32 0, .slice none 0 0] 40)).alloc (.cells #[] 5)).heap.size = w.heap.size + 2) := Lib.hid (by simp)
  have HT := Lib.hid (fun j (hj : j < l.length) => take_step hj)
  clear hs
  go_enter Try.func68, Try.ntmps68
  go_wp2_with fail
  generalize (w.alloc (.cells #[.int .u64 0, .int .u32 0, .slice none 0 0] 40)).alloc (.cells #[] 5) = w1 at *
  go_loopg [5, 20] l.length (fun k v i wr => ∃ j : Nat, j + k = l.length ∧ i = .int .i64 j ∧ wr.ownsRow (w.heap.size + 1) 5 1 v (64 * j) (bv (l.take j).flatten) ∧ Below (w.heap.size + 1) w1 wr)
  case atStart => exact ⟨0, Nat.zero_add _, rfl, E0.out, Below.refl _ _⟩
  case round =>
    obtain ⟨j, hj, rfl, hown, hbel⟩ := hrel
    by_cases hlt : j < l.length
    · obtain ⟨b, o, rfl, hb⟩ := HS.out.some_of (by omega)
      have hs : l[j]? = some l[j] := List.getElem?_eq_getElem hlt
      have hbw : Below w.heap.size w wr := B0.out.trans (hbel.mono (by omega))
      have hr : Hid (wr.rangeAt b (o + j * 64) (bv l[j])) := Lib.hid ((HS.out.below hbw).range hs)
      have h64 := HS.out.ok.len _ (List.getElem_mem hlt)
      have hts := HT.out j hlt
      have hts2 : bv (l.take (j + 1)).flatten = bv (l.take j).flatten ++ bv l[j] := by rw [hts, bv_append]
      have HTS := Lib.hid hts2
      have HZ : Hid ((Try.prog.info? 77).map (·.size) = some (bv l[j]).length) := Lib.hid (by rw [secSize, bv_length, h64])
      have Z1 := Lib.hid (sec_toArray h64)
      have Z2 : Hid ((bv noSec).toArray.size = (bv l[j]).toArray.size) := Lib.hid (by simp [bv, h64, noSec])
      have Z3 := Lib.hid (sec_one l[j])
      have Z4 : Hid ((bv l[j]).length = 64 * 1) := Lib.hid (by rw [bv_length, h64])
      have K2 := Lib.hid (heap_alloc_at wr (.cells (bv noSec).toArray 77))
      have K3 := Lib.hid (setRow_at (bv l[j]).toArray K2.out)
      have B2 : Hid (Below wr.heap.size wr ((wr.alloc (.cells (bv noSec).toArray 77)).setRow wr.heap.size (bv l[j]).toArray)) := Lib.hid (below_setRow ((Below.refl _ _).alloc (Nat.le_refl _) _) (Nat.le_refl _) _)
      have HO := Lib.hid (own_same hown (fun k hk => B2.out.block k (hown.lt k hk).2))
      have HL := Lib.hid (fun k hk => (hown.lt k hk).1)
      have hsz := hbel.size
      have hwr : w.heap.size + 1 ≤ wr.heap.size := by have := Z0.out; omega
      have HBL := Lib.hid (hbel.trans (B2.out.mono hwr))
      have HWB : Hid (w.heap.size + 1 ≤ ((wr.alloc (.cells (bv noSec).toArray 77)).setRow wr.heap.size (bv l[j]).toArray).heap.size) := Lib.hid (Nat.le_trans hwr B2.out.size)
      obtain ⟨A7, c7, rfl, -⟩ := own_form hown
      clear hs hts hts2 h64 hown hbel hbw hsz hwr
      generalize l[j] = s at *
      go_upto_region 5 with (first
        | refine wpList_load_mid rfl 77 (.tmp 22) rfl b (o + j * 64) rfl (bv s) _ hr.out secUnder rfl HZ.out ?_
        | refine wpList_alloc_as rfl 77 rfl (bv noSec).toArray secZero ?_
        | refine wpList_store_block rfl 77 (.tmp 7) (.tmp 23) rfl wr.heap.size (bv s).toArray rfl rfl (bv noSec).toArray 77 K2.out Z1.out Z2.out Z3.out ?_)
      obtain ⟨w9, hw9⟩ : ∃ w9, (wr.alloc (.cells (bv noSec).toArray 77)).setRow wr.heap.size (bv s).toArray = w9 := ⟨_, rfl⟩
      rw [hw9] at K3 B2 HO HBL HWB ⊢
      clear hw9 K2
      have SR : Hid (Fg.Src w9 (some ⟨wr.heap.size, 0, none⟩) 64 64 (bv s)) := Lib.hid ⟨(fun h => by cases h), Nat.le_refl _, by simp [maxLen], fun ad had q u hu => by
        injection had with had
        subst had
        rw [Addr.add_lit, Nat.zero_add, cell_of_block K3.out, List.getElem?_toArray]; exact hu⟩
      have HBD : Hid ((64 * j + 64) * 1 ≤ 140737488355328) := Lib.hid (by omega)
      have HNL : Hid ((bv s).length = 64 * 1) := Lib.hid (by have := Z4.out; omega)
      go_wp2_with (at_builtin; refine wpList_append_any rfl (.tmp 24) (.tmp 25) 37 rfl (w.heap.size + 1) 5 (.int .u8 0) 1 1 Try.underlying37 info_u8 rfl (by decide) (by decide) (.slice A7 (64 * j) c7) (64 * j) _ rfl HO.out (some ⟨wr.heap.size, 0, none⟩) 64 64 (bv s) rfl SR.out HNL.out (bv_one s) HBD.out HWB.out ?_)
      intro v' wv hown2 hgr2 _ _
      have HO2 := Lib.hid hown2
      have HB2 := Lib.hid (HBL.out.grown hgr2 (by have := HBL.out.size; have := Z0.out; omega) (fun k hk => HL.out k hk))
      clear hown2 hgr2
      go_wp2_with fail
      go_roundg (gk - 1)
      case measure => omega
      case rel => exact ⟨j + 1, by omega, by go_num, by rw [HTS.out, show 64 * (j + 1) = 64 * j + 64 by omega]; exact HO2.out, HB2.out⟩
    · obtain rfl : j = l.length := by omega
      rw [List.take_length] at hown
      have HBW : Hid (Below w.heap.size w wr) := Lib.hid (B0.out.trans (hbel.mono (by omega)))
      have K1 : Hid (wr.heap[w.heap.size]? = some (.cells #[.int .u64 0, .int .u32 0, .slice none 0 0] 40 (0, 0))) := Lib.hid ((hbel.block _ (by omega)).trans K0.out)
      obtain ⟨A7, c7, rfl, -⟩ := own_form hown
      by_cases h0 : l.length = 0
      · have HN : Hid (¬ isRec l) := Lib.hid (fun h => by have := h.1; omega)
        have hlz : (64 * (l.length : Int)) < 64 := by omega
        have k0 := cell_of_block K1.out 0
        have k1 := cell_of_block K1.out 1
        have k2 := cell_of_block K1.out 2
        have f0 := free_of_block K1.out 0
        have f1 := free_of_block K1.out 1
        have f2 := free_of_block K1.out 2
        clear hown hbel HT
        go_wp2_with fail
        exact bodyPost_ret (v := .tuple #[.agg #[.int .u64 0, .int .u32 0, .slice none 0 0], .int .i64 0, .bool false]) (res_cell_tmp2 Try.results68 _ _ w.heap.size 40 _ (0, 0) _ _ _ rfl rfl rfl (set3 K1.out) Try.underlying40 rfl recInfo) rfl (OpenF.no HN.out (below_set3 HBW.out))
      · have hF := flat_length HS.out.ok.len
        have hlen : (bv l.flatten).length = 64 * l.length := by rw [bv_length, hF]; omega
        obtain ⟨g7, rfl⟩ : ∃ g7, A7 = some ⟨g7, 0, none⟩ := by
          obtain ⟨A', c', hv, h1, h2, h3, h4⟩ := own_form hown
          injection hv with e1 e2 e3
          subst e1 e3
          cases A7 with
          | none => have := (h3 rfl).1; omega
          | some ad => obtain ⟨g, rfl, _⟩ := h4 ad rfl; exact ⟨g, rfl⟩
        have SB := Lib.hid (Fg.Src.of_own hown)
        have HG7 : Hid (w.heap.size + 1 ≤ g7) := Lib.hid (hown.lt g7 rfl).1
        have hF2 : 2 ≤ l.flatten.length := by omega
        obtain ⟨x0, x1, R, hFe⟩ : ∃ x0 x1 R, l.flatten = x0 :: x1 :: R := by
          match hm : l.flatten, hF2 with
          | a :: b :: r, _ => exact ⟨a, b, r, rfl⟩
        have hx0 : wr.cell? ⟨g7, 0, none⟩ = some (.int .u8 x0) := by
          have := SB.out.cells _ rfl 0 (.int .u8 x0) (by rw [hFe]; rfl)
          rwa [Addr.add_lit] at this
        have hx1 : wr.cell? ⟨g7, 1, none⟩ = some (.int .u8 x1) := by
          have := SB.out.cells _ rfl 1 (.int .u8 x1) (by rw [hFe]; rfl)
          rwa [Addr.add_lit] at this
        have hsm := HS.out.ok.flat_small
        have hb0 := hsm x0 (by rw [hFe]; simp)
        have hb1 := hsm x1 (by rw [hFe]; simp)
        have SV : Hid (256 * x0 + x1 = saidSize l) := Lib.hid (by
          show _ = val (l.flatten.take 2)
          rw [hFe]; simp [val]; omega)
        have HF := Lib.hid hF
        have hc7 := SB.out.cap
        clear hFe
        obtain ⟨hb00, hb01⟩ := hb0
        obtain ⟨hb10, hb11⟩ := hb1
        have W1 : IntKind.i64.wrap (256 * x0) = 256 * x0 := by rw [IntKind.wrap_i64]; omega
        have W2 : IntKind.i64.wrap (256 * x0 + x1) = 256 * x0 + x1 := by rw [IntKind.wrap_i64]; omega
        have W3 : IntKind.i64.wrap x0 = x0 := by rw [IntKind.wrap_i64]; omega
        have W4 : IntKind.i64.wrap x1 = x1 := by rw [IntKind.wrap_i64]; omega
        have hL64 : ¬ (64 * (l.length : Int) < 64) := by omega
        have hV0 : 0 ≤ saidSize l := by rw [← SV.out]; omega
        have hV1 : saidSize l < 65536 := by rw [← SV.out]; omega
        have SM : Hid (secs (saidSize l) = saidMany l) := Lib.hid rfl
        have hMr : 0 ≤ saidMany l ∧ saidMany l ≤ 12 := secs_range _
        obtain ⟨hM0, hM1⟩ := hMr
        have SK := Lib.hid (said_ok HS.out.ok)
        have NO : Hid (¬ (0 < saidMany l ∧ saidMany l ≤ l.length) → ¬ isRec l) := Lib.hid (fun h h2 => h ⟨h2.2.1, h2.2.2.1⟩)
        have hl0 : 0 < (l.length : Int) := by omega
        have SZ := Lib.hid (fun w' => refsize_any (saidSize l) ⟨by omega, by omega⟩ w')
        clear hown hbel hlen hF hF2 hsm HT E0 K0 B0 Z0
        go_upto_region 9 with fail
        go_quiet (fail)
        rw [SV.out]
        clear W1 W2 W3 W4 hx0 hx1 hb00 hb01 hb10 hb11 SV hL64
        have HB1 : Hid (Below w.heap.size w (wr.drewN nq)) := Lib.hid (below_drewN HBW.out nq)
        have K2 : Hid ((wr.drewN nq).heap[w.heap.size]? = some (.cells #[.int .u64 0, .int .u32 0, .slice none 0 0] 40 (0, 0))) := K1
        have S2 : Hid (Fg.Src (wr.drewN nq) (some ⟨g7, 0, none⟩) (64 * l.length) c7 (bv l.flatten)) := Lib.hid (SB.out.same fun _ _ _ => rfl)
        clear SB K1 HBW
        generalize wr.drewN nq = w2 at *
        generalize hVV : saidSize l = V at *
        go_wp2_with fail
        refine (SZ.out _).mono ?_
        rintro e w' ⟨rfl, rfl⟩
        rw [SM.out]
        clear SM SZ
        generalize hMM : saidMany l = M at *
        by_cases hm : 0 < M ∧ M ≤ l.length
        · obtain ⟨n, m, S⟩ := SK.out hm.1 hm.2
          have hVn : V = n := hVV.symm.trans S.size
          have hMm : M = m := hMM.symm.trans S.many
          subst hVn hMm
          have hm0 : 0 < (m : Int) := hm.1
          have hml : (m : Int) ≤ l.length := hm.2
          have hmc : (m : Int) ≤ c := by omega
          have hmz : ((m : Int) == 0) = false := beq_eq_false_iff_ne.2 (by omega)
          have hdl : decide (l.length < m) = false := decide_eq_false (by omega)
          have HSD := Lib.hid S
          have hn7 : (n : Int) ≤ 700 := by have := S.le; omega
          have hmn : 18 + n ≤ 64 * m := by have := S.m_eq; omega
          have hnl : 14 + n ≤ 64 * l.length := by omega
          have hFl : l.flatten.length = 64 * l.length := by have := HF.out; omega
          have S14 := Lib.hid (src_mid S2.out hFl 14 n hnl)
          have PAY : Hid ((l.flatten.drop 14).take n = (said l).pay) := Lib.hid S.pay.symm
          have t1 : ((l.flatten.drop 2).take 8).length = 8 := by rw [List.length_take, List.length_drop]; omega
          have t2 : ((l.flatten.drop 10).take 4).length = 4 := by rw [List.length_take, List.length_drop]; omega
          have tl : ((l.flatten.drop 14).take n).length = n := by rw [List.length_take, List.length_drop]; omega
          have S8 := Lib.hid (src_mid S2.out hFl 2 8 (by omega))
          have S4 := Lib.hid (src_mid S2.out hFl 10 4 (by omega))
          have hsm := HS.out.ok.flat_small
          have m1 : Small ((l.flatten.drop 2).take 8) := fun x hx => hsm x (List.mem_of_mem_drop (List.mem_of_mem_take hx))
          have m2 : Small ((l.flatten.drop 10).take 4) := fun x hx => hsm x (List.mem_of_mem_drop (List.mem_of_mem_take hx))
          have V8 := Lib.hid (fun j (hj : j < ((l.flatten.drop 2).take 8).length) => val_take m1 (by omega) hj)
          have V4 := Lib.hid (fun j (hj : j < ((l.flatten.drop 10).take 4).length) => val_take4 m2 (by omega) hj)
          have HSQ : Hid (val ((l.flatten.drop 2).take 8) = (said l).seq) := Lib.hid rfl
          have HEP : Hid (val ((l.flatten.drop 10).take 4) = (said l).epoch) := Lib.hid rfl
          have ROK : Hid (said l).ok := Lib.hid (said_rec_ok HS.out.ok (by omega))
          have PL : Hid ((said l).pay.length = n) := Lib.hid S.pay_len
          generalize (l.flatten.drop 2).take 8 = P8 at *
          generalize (l.flatten.drop 10).take 4 = P4 at *
          have hc64 : 64 ≤ c7 := by omega
          have hcn14 : ¬ c7 = 14 := by omega
          have hsub : Hid (14 + n - 14 = n) := Lib.hid (by omega)
          have hcn2 : ¬ c7 = 2 := by omega
          have hcn10 : ¬ c7 = 10 := by omega
          have hc7I : 14 + (n : Int) ≤ c7 := by omega
          have hnlI : 14 + (n : Int) ≤ 64 * (l.length : Int) := by omega
          have hc10 : (10 : Int) ≤ c7 := by omega
          have hc14 : (14 : Int) ≤ c7 := by omega
          have hn0 : (14 : Int) ≤ 14 + (n : Int) := by omega
          have EMP : Hid ((w'.alloc (.cells #[] 5)).ownsRow w'.heap.size 5 1 (.slice (some ⟨w'.heap.size, 0, none⟩) 0 0) 0 []) := Lib.hid (by
            have := World.ownsRow_made (e := 5) (size := 1) w' #[] 0 (Nat.le_refl _) (Nat.zero_le _) rfl
            simpa using this)
          have S14a : Hid (Fg.Src (w'.alloc (.cells #[] 5)) (some ⟨g7, 14, none⟩) (14 + n - 14) (c7 - 14) (bv ((l.flatten.drop 14).take n))) := Lib.hid (by rw [hsub.out]; exact S14.out.same fun ad had hne => heap_alloc_old _ _ (S14.out.lt had hne))
          have HBA : Hid (Below w'.heap.size w' (w'.alloc (.cells #[] 5))) := Lib.hid ((Below.refl _ _).alloc (Nat.le_refl _) _)
          have HNL : Hid ((bv ((l.flatten.drop 14).take n)).length = (14 + n - 14) * 1) := Lib.hid (by rw [bv_length, tl]; omega)
          have HBD : Hid ((0 + (14 + n - 14)) * 1 ≤ 140737488355328) := Lib.hid (by omega)
          clear hm S NO SK hVV hMM hV0 hV1 hM0 hmn hnl hFl tl hsm m1 m2 S14 h0
          go_wp2_with (at_builtin; refine wpList_append_any rfl (.tmp 53) (.tmp 57) 37 rfl w'.heap.size 5 (.int .u8 0) 1 1 Try.underlying37 info_u8 rfl (by decide) (by decide) (.slice (some ⟨w'.heap.size, 0, none⟩) 0 0) 0 [] rfl EMP.out (some ⟨g7, 14, none⟩) (14 + n - 14) (c7 - 14) (bv ((l.flatten.drop 14).take n)) rfl S14a.out HNL.out (bv_one _) HBD.out HBA.out.size ?_)
          intro v' w3 hown3 hgr3 _ _
          have HB3 := Lib.hid (HBA.out.grown hgr3 HBA.out.size (fun k hk => by cases hk; exact Nat.le_refl _))
          obtain ⟨A9, c9, rfl, -⟩ := own_form hown3
          have S9 := Lib.hid (Fg.Src.of_own hown3)
          have NB9 : Hid (∀ ad, A9 = some ad → w.heap.size < ad.block) := Lib.hid (fun ad had => by
            obtain ⟨A', c', hv, h1, h2, h3, h4⟩ := own_form hown3
            injection hv with e1 e2 e3
            subst e1
            obtain ⟨g, rfl, _⟩ := h4 ad had
            have hg := (hown3.lt g (by rw [had]; rfl)).1
            have := block_lt K2.out
            show _ < g
            omega)
          clear hown3 hgr3
          have HW3 : Hid (Below w.heap.size w w3 ∧ w.heap.size < w3.heap.size) := Lib.hid ⟨HB1.out.trans (HB3.out.mono HB1.out.size), Nat.lt_of_lt_of_le (block_lt K2.out) HB3.out.size⟩
          have K3 : Hid (w3.heap[w.heap.size]? = some (.cells #[.int .u64 0, .int .u32 0, .slice none 0 0] 40 (0, 0))) := Lib.hid ((HB3.out.block _ (block_lt K2.out)).trans K2.out)
          have S83 := Lib.hid (S8.out.same (w' := w3) fun ad had hne => HB3.out.block _ (S8.out.lt had hne))
          have S43 := Lib.hid (S4.out.same (w' := w3) fun ad had hne => HB3.out.block _ (S4.out.lt had hne))
          clear S8 S4 HB3 HBA EMP S14a HNL HBD HB1 K2 S2
          go_wp2_with fail
          have G0 : Hid ((w3.alloc (.cells #[.int .u64 0, .int .u32 0, .slice A9 n c9] 40)).heap[w3.heap.size]? = some (.cells #[.int .u64 0, .int .u32 0, .slice A9 n c9] 40 (0, 0))) := Lib.hid (heap_alloc_at w3 _)
          have GB : Hid (Below w3.heap.size w3 (w3.alloc (.cells #[.int .u64 0, .int .u32 0, .slice A9 n c9] 40))) := Lib.hid ((Below.refl _ _).alloc (Nat.le_refl _) _)
          generalize w3.alloc (.cells #[.int .u64 0, .int .u32 0, .slice A9 n c9] 40) = w4 at *
          go_loopg [63] 8 (fun k i wr => ∃ j : Nat, j + k = 8 ∧ i = .int .i64 j ∧ wr.heap[w3.heap.size]? = some (.cells #[.int .u64 (val (P8.take j)), .int .u32 0, .slice A9 n c9] 40 (0, 0)) ∧ Below w3.heap.size w3 wr)
          case atStart => exact ⟨0, rfl, rfl, G0.out, GB.out⟩
          case round =>
            obtain ⟨j, hj, rfl, hg, hbel⟩ := hrel
            have GJ := Lib.hid hg
            have BJ := Lib.hid hbel
            clear hg hbel
            by_cases hlt : j < 8
            · have hj8 : j < P8.length := by omega
              obtain ⟨⟨p0, p1⟩, ⟨q0, q1⟩, hv⟩ := V8.out j hj8
              have hsr := S83.out.same (w' := wr) (fun ad had hne => BJ.out.block _ (S83.out.lt had hne))
              have hcx : wr.cell? ⟨g7, 2 + j, none⟩ = some (.int .u8 P8[j]) := by
                have := hsr.cells _ rfl j (.int .u8 P8[j]) (by simp [bv, hj8])
                rwa [Addr.add_lit] at this
              have HVN := Lib.hid hv
              clear hv hsr
              generalize P8[j] = x at *
              generalize val (P8.take j) = v at *
              have cv := cell_of_block GJ.out 0
              have fv := free_of_block GJ.out 0
              have wv : IntKind.u64.wrap (v * 256) = v * 256 := by rw [IntKind.wrap_u64]; omega
              have wx : IntKind.u64.wrap x = x := by rw [IntKind.wrap_u64]; omega
              have ws : IntKind.u64.wrap (v * 256 + x) = v * 256 + x := by rw [IntKind.wrap_u64]; omega
              have GN := Lib.hid (hset_at wr w3.heap.size 0 (.int .u64 (v * 256 + x)) GJ.out)
              have BN := Lib.hid (BJ.out.setCell (p := ⟨w3.heap.size, 0, none⟩) (Nat.le_refl _) (.int .u64 (v * 256 + x)))
              go_wp2_with fail
              go_roundg (gk - 1)
              case measure => omega
              case rel => exact ⟨j + 1, by omega, by go_num, by rw [HVN.out]; exact GN.out, BN.out⟩
            · obtain rfl : j = 8 := by omega
              rw [List.take_of_length_le (by omega)] at GJ
              rw [HSQ.out] at GJ
              go_wp2_with fail
              go_loopg [78] 4 (fun k i wx => ∃ j : Nat, j + k = 4 ∧ i = .int .i64 j ∧ wx.heap[w3.heap.size]? = some (.cells #[.int .u64 (said l).seq, .int .u32 (val (P4.take j)), .slice A9 n c9] 40 (0, 0)) ∧ Below w3.heap.size w3 wx)
              case atStart => exact ⟨0, rfl, rfl, GJ.out, BJ.out⟩
              case round =>
                obtain ⟨q, hq, rfl, hg2, hbel2⟩ := hrel
                have GQ := Lib.hid hg2
                have BQ := Lib.hid hbel2
                clear hg2 hbel2 GJ BJ
                by_cases hlt4 : q < 4
                · have hj4 : q < P4.length := by omega
                  obtain ⟨⟨p0, p1⟩, ⟨q0, q1⟩, hv⟩ := V4.out q hj4
                  have hsr := S43.out.same (w' := wr) (fun ad had hne => BQ.out.block _ (S43.out.lt had hne))
                  have hcx : wr.cell? ⟨g7, 10 + q, none⟩ = some (.int .u8 P4[q]) := by
                    have := hsr.cells _ rfl q (.int .u8 P4[q]) (by simp [bv, hj4])
                    rwa [Addr.add_lit] at this
                  have HVN := Lib.hid hv
                  clear hv hsr
                  generalize P4[q] = x at *
                  generalize val (P4.take q) = v at *
                  have cv := cell_of_block GQ.out 1
                  have fv := free_of_block GQ.out 1
                  have wv : IntKind.u32.wrap (v * 256) = v * 256 := by rw [IntKind.wrap_u32]; omega
                  have wxx : IntKind.u32.wrap x = x := by rw [IntKind.wrap_u32]; omega
                  have ws : IntKind.u32.wrap (v * 256 + x) = v * 256 + x := by rw [IntKind.wrap_u32]; omega
                  have GN := Lib.hid (hset_at wr w3.heap.size 1 (.int .u32 (v * 256 + x)) GQ.out)
                  have BN := Lib.hid (BQ.out.setCell (p := ⟨w3.heap.size, 1, none⟩) (Nat.le_refl _) (.int .u32 (v * 256 + x)))
                  go_wp2_with fail
                  go_roundg (gk - 1)
                  case measure => omega
                  case rel => exact ⟨q + 1, by omega, by go_num, by rw [HVN.out]; exact GN.out, BN.out⟩
                · obtain rfl : q = 4 := by omega
                  rw [List.take_of_length_le (by omega)] at GQ
                  rw [HEP.out] at GQ
                  have SP : Hid (Fg.Src wr A9 (said l).pay.length c9 (bv (said l).pay)) := Lib.hid (by
                    have h := S9.out.same (w' := wr) (fun ad had hne => BQ.out.block _ (S9.out.lt had hne))
                    rw [PL.out, ← PAY.out]; exact h)
                  have RM := refmake_any (said l) ROK.out (by rw [PL.out]; omega) A9 c9 wr SP.out
                  unfold recv at RM
                  rw [PL.out] at RM
                  have RM := Lib.hid RM
                  have c0 := cell_of_block GQ.out 0
                  have c1 := cell_of_block GQ.out 1
                  have c2 := cell_of_block GQ.out 2
                  go_wp2_with fail
                  refine RM.out.mono ?_
                  rintro e w5 ⟨A6, c6, rfl, ho6, hb6⟩
                  have W5 : Hid (Below w3.heap.size w3 w5) := Lib.hid (BQ.out.trans (hb6.mono BQ.out.size))
                  have B5 : Hid (Below w.heap.size w w5) := Lib.hid (HW3.out.1.trans (W5.out.mono HW3.out.1.size))
                  have K5 : Hid (w5.heap[w.heap.size]? = some (.cells #[.int .u64 0, .int .u32 0, .slice none 0 0] 40 (0, 0))) := Lib.hid ((W5.out.block _ HW3.out.2).trans K3.out)
                  have G5 : Hid (w5.heap[w3.heap.size]? = some (.cells #[.int .u64 (said l).seq, .int .u32 (said l).epoch, .slice A9 n c9] 40 (0, 0))) := Lib.hid ((hb6.block _ (block_lt GQ.out)).trans GQ.out)
                  have SP5 : Hid (Fg.Src w5 A9 n c9 (bv (said l).pay)) := Lib.hid (by
                    have h := SP.out.same (w' := w5) (fun ad had hne => hb6.block _ (SP.out.lt had hne))
                    rwa [PL.out] at h)
                  have HL9 : Hid (∀ ad, A9 = some ad → n ≠ 0 → ad.block < w3.heap.size) := Lib.hid (fun ad had hne => S9.out.lt had (fun e => by
                    have := congrArg List.length e
                    rw [bv_length, PAY.out, PL.out] at this
                    exact hne this))
                  have SO := Lib.hid (SecsAt.of_own ho6 (Rec.made_secs ROK.out.small))
                  have ST := Lib.hid ((HS.out.below B5.out).take (m := m) (by omega))
                  have hlt5 := Lib.hid (block_lt K5.out)
                  have k0 := cell_of_block K5.out 0
                  have k1 := cell_of_block K5.out 1
                  have k2 := cell_of_block K5.out 2
                  have f0 := free_of_block K5.out 0
                  have f1 := free_of_block K5.out 1
                  have f2 := free_of_block K5.out 2
                  clear ho6 hb6 RM c0 c1 c2 BQ
                  by_cases hq : (said l).seq = 0
                  · have HN : Hid (¬ isRec l) := Lib.hid (fun h => h.2.2.2.1 hq)
                    have herr : (said l).err = 81 := if_neg (fun h => h.2 hq)
                    clear hq
                    rw [herr]
                    clear herr
                    go_wp2_with fail
                    exact bodyPost_ret (v := .tuple #[.agg #[.int .u64 0, .int .u32 0, .slice none 0 0], .int .i64 0, .bool false]) (res_cell_tmp2 Try.results68 _ _ w.heap.size 40 _ (0, 0) _ _ _ rfl rfl rfl (set3 K5.out) Try.underlying40 rfl recInfo) rfl (OpenF.no HN.out (below_set3 B5.out))
                  · have hg : (said l).good := ⟨by rw [PL.out]; omega, hq⟩
                    have herr : (said l).err = 0 := if_pos hg
                    have HQ : Hid (isRec l ↔ (said l).made = l.take m) := Lib.hid (by
                      have e3 : (saidMany l).toNat = m := by rw [HSD.out.many]; omega
                      unfold isRec
                      rw [e3]
                      exact ⟨fun h => h.2.2.2.2, fun h => ⟨by omega, by rw [HSD.out.many]; omega, by rw [HSD.out.many]; omega, hq, h⟩⟩)
                    have hmade := Rec.made_length hg
                    have hml13 : (said l).made.length ≤ 1000000 := by rw [hmade, Rec.many_of hg.1, PL.out]; omega
                    have htl : (l.take m).length = m := by rw [List.length_take]; omega
                    have SS := samesecs_any (said l).made (l.take m) A6 A c6 c w5 SO.out ST.out hml13
                    rw [htl] at SS
                    have SS := Lib.hid SS
                    clear hq hg hmade hml13 htl
                    rw [herr]
                    clear herr
                    go_wp2_with fail
                    refine SS.out.mono ?_
                    rintro e w6 ⟨rfl, hb6⟩
                    have B6 : Hid (Below w.heap.size w w6) := Lib.hid (B5.out.trans (hb6.mono B5.out.size))
                    have K6 : Hid (w6.heap[w.heap.size]? = some (.cells #[.int .u64 0, .int .u32 0, .slice none 0 0] 40 (0, 0))) := Lib.hid ((hb6.block _ (block_lt K5.out)).trans K5.out)
                    have G6 : Hid (w6.heap[w3.heap.size]? = some (.cells #[.int .u64 (said l).seq, .int .u32 (said l).epoch, .slice A9 n c9] 40 (0, 0))) := Lib.hid ((hb6.block _ (block_lt G5.out)).trans G5.out)
                    have SP6 : Hid (Fg.Src w6 A9 n c9 (bv (said l).pay)) := Lib.hid (SP5.out.same (fun ad had hne => hb6.block _ (SP5.out.lt had hne)))
                    clear hb6 k0 k1 k2 f0 f1 f2 SS SO ST
                    have k0 := cell_of_block K6.out 0
                    have k1 := cell_of_block K6.out 1
                    have k2 := cell_of_block K6.out 2
                    have f0 := free_of_block K6.out 0
                    have f1 := free_of_block K6.out 1
                    have f2 := free_of_block K6.out 2
                    by_cases hsm : (said l).made = l.take m
                    · have HY : Hid (isRec l) := Lib.hid (HQ.out.2 hsm)
                      have hdt : decide ((said l).made = l.take m) = true := decide_eq_true hsm
                      have c0 := cell_of_block G6.out 0
                      have c1 := cell_of_block G6.out 1
                      have c2 := cell_of_block G6.out 2
                      rw [hdt]
                      clear hdt hsm
                      have HRes : Hid (OpenF l w (.returned (.tuple #[.agg #[.int .u64 (said l).seq, .int .u32 (said l).epoch, .slice A9 n c9], .int .i64 m, .bool true])) (((w6.setCell ⟨w.heap.size, 0, none⟩ (.int .u64 (said l).seq)).setCell ⟨w.heap.size, 1, none⟩ (.int .u32 (said l).epoch)).setCell ⟨w.heap.size, 2, none⟩ (.slice A9 n c9))) := Lib.hid (by
                        refine ⟨A9, c9, ?_, ?_, below_set3 B6.out, NB9.out⟩
                        · rw [openedR, openedN, if_pos HY.out, if_pos HY.out, decide_eq_true HY.out, HSD.out.many, recv, PL.out]
                        · rw [openedR, if_pos HY.out, PL.out]
                          refine SP6.out.same (fun ad had hne => ?_)
                          have hb4 : ad.block ≠ w.heap.size := by have := NB9.out ad had; omega
                          rw [hset_other _ _ _ hb4, hset_other _ _ _ hb4, hset_other _ _ _ hb4])
                      go_wp2_with fail
                      exact bodyPost_ret (v := .tuple #[.agg #[.int .u64 (said l).seq, .int .u32 (said l).epoch, .slice A9 n c9], .int .i64 m, .bool true]) (res_cell_tmp2 Try.results68 _ _ w.heap.size 40 _ (0, 0) _ _ _ rfl rfl rfl (set3 K6.out) Try.underlying40 rfl recInfo) rfl HRes.out
                    · have HN : Hid (¬ isRec l) := Lib.hid (fun h => hsm (HQ.out.1 h))
                      have hdt : decide ((said l).made = l.take m) = false := decide_eq_false hsm
                      rw [hdt]
                      clear hdt hsm
                      go_wp2_with fail
                      exact bodyPost_ret (v := .tuple #[.agg #[.int .u64 0, .int .u32 0, .slice none 0 0], .int .i64 0, .bool false]) (res_cell_tmp2 Try.results68 _ _ w.heap.size 40 _ (0, 0) _ _ _ rfl rfl rfl (set3 K6.out) Try.underlying40 rfl recInfo) rfl (OpenF.no HN.out (below_set3 B6.out))
        · have HN := Lib.hid (NO.out hm)
          have k0 := cell_of_block K2.out 0
          have k1 := cell_of_block K2.out 1
          have k2 := cell_of_block K2.out 2
          have f0 := free_of_block K2.out 0
          have f1 := free_of_block K2.out 1
          have f2 := free_of_block K2.out 2
          by_cases hz : M = 0
          · have hzb : (M == 0) = true := beq_iff_eq.2 hz
            clear hm hz
            go_wp2_with fail
            exact bodyPost_ret (v := .tuple #[.agg #[.int .u64 0, .int .u32 0, .slice none 0 0], .int .i64 0, .bool false]) (res_cell_tmp2 Try.results68 _ _ w.heap.size 40 _ (0, 0) _ _ _ rfl rfl rfl (set3 K2.out) Try.underlying40 rfl recInfo) rfl (OpenF.no HN.out (below_set3 HB1.out))
          · have hzb : (M == 0) = false := beq_eq_false_iff_ne.2 hz
            have hgt : (l.length : Int) < M := by omega
            clear hm hz
            go_wp2_with fail
            exact bodyPost_ret (v := .tuple #[.agg #[.int .u64 0, .int .u32 0, .slice none 0 0], .int .i64 0, .bool false]) (res_cell_tmp2 Try.results68 _ _ w.heap.size 40 _ (0, 0) _ _ _ rfl rfl rfl (set3 K2.out) Try.underlying40 rfl recInfo) rfl (OpenF.no HN.out (below_set3 HB1.out))
theorem refopen_any (l : List (List Int)) (A : Option Addr) (c : Nat) (w : World) (hs : SecsAt w A c l) (hl : l.length ≤ 1000000) :
    Calls Try.prog 68 #[.slice A l.length c] w (OpenE l w) :=
  (refopen_new l A c w hs hl).mono fun e w' ⟨A', c', h1, h2, h3, _⟩ => ⟨A', c', h1, h2, h3⟩
end Go.Proofs.Ytogkibikghbghaa.Frame
