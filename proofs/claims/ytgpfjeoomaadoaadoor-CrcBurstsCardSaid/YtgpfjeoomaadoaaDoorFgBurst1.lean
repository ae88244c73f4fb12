/- Contract of crc.Burst. Conditions: none beyond each lemma's own hypotheses. -/
import Derived.Test.YtgpfjeoomaadoaaDoorFgBurst0
import Derived.Deep.DeepCutAuto
import Derived.Deep.CutBlock
set_option linter.unusedVariables false
set_option linter.unusedSimpArgs false
namespace Go.Proofs.YtgpfjeoomaadoaaDoor.Crc
open Go.RowKit Go.Proofs.YtgpfjeoomaadoaaDoor.Fg

/-- What a Burst leaves. -/
def BurstMade (l r : List Int) (w : World) (e : Ending) (w' : World) : Prop := ∃ A c, e = .returned (.slice A l.length c) ∧ w'.ownsRow w.heap.size 5 1 (.slice A l.length c) l.length (bv r) ∧ Below w.heap.size w w'
set_option maxRecDepth 100000 in
set_option maxHeartbeats 2000000 in
theorem burst_any (l : List Int) (hb : Small l) (hn : l.length ≤ 100000) (at_ : Int) (hat : -9223372036854775808 ≤ at_ ∧ at_ ≤ 9223372036854775807) (m : BitVec 32) (A : Option Addr) (c : Nat) (w : World) (hs : Fg.Src w A l.length c (bv l)) (hT : TabW w) :
    Calls Tryd.prog 7 #[.slice A l.length c, .int .i64 at_, .int .u32 m.toNat] w (BurstMade l (burst l at_ m) w) := by
  have hm := m.isLt
  have HT := Lib.hid hT
  have HSM := Lib.hid hb
  have CL := Lib.hid (clone_any l A c w hs (by omega))
  clear hs hT hb
  go_enter Tryd.func7, Tryd.ntmps7
  go_wp2_with fail
  refine CL.out.mono ?_
  rintro e w1 ⟨v1, rfl, ho1, hb1, -⟩
  obtain ⟨A1, c1, rfl, -⟩ := own_form ho1
  have HO1 := Lib.hid ho1
  have HB1 := Lib.hid hb1
  have TZ := Lib.hid (tz_any m.toNat hm w1 (HT.out.below hb1))
  have hz : Lib.ctz 32 m.toNat ≤ 32 := by
    by_cases h : m.toNat = 0
    · rw [h]; decide
    · exact Nat.le_of_lt (Lib.lowest_bit 32 m.toNat h (by omega)).2
  have ZL : Hid (m.toNat ≠ 0 → Lib.ctz 32 m.toNat < 32) := Lib.hid (fun h => (Lib.lowest_bit 32 m.toNat h (by omega)).2)
  have FT : Hid (m.toNat ≠ 0 → (fits l.length at_ m = true ↔ 0 ≤ at_ ∧ at_ ≤ 8 * (l.length : Int) - 1 - (31 - (Lib.ctz 32 m.toNat : Int)))) := Lib.hid (fun h => fits_tz h)
  have no : Hid (burst l at_ m = l → BurstMade l (burst l at_ m) w (.returned (.slice A1 l.length c1)) w1) := Lib.hid (fun h => ⟨A1, c1, rfl, by rw [h]; exact HO1.out, HB1.out⟩)
  clear ho1 hb1 CL
  go_wp2_with fail
  refine TZ.out.mono ?_
  rintro e w' ⟨rfl, rfl⟩
  generalize Lib.ctz 32 m.toNat = z at *
  clear TZ
  by_cases h0 : at_ < 0
  · go_wp2_with fail
    go_ret
    exact no.out (if_neg (fun h => by have := (fits_iff.1 h).1; omega))
  · by_cases hm0 : m.toNat = 0
    · have hmb : ((m.toNat : Int) == 0) = true := beq_iff_eq.2 (by omega)
      have M0 : Hid (m = 0#32) := Lib.hid (BitVec.eq_of_toNat_eq (by simpa using hm0))
      clear hm0
      go_wp2_with fail
      go_ret
      exact no.out (by rw [M0.out]; exact burst_zero at_)
    · have hmb : ((m.toNat : Int) == 0) = false := beq_eq_false_iff_ne.2 (by omega)
      have FI := FT.out hm0
      by_cases h2 : 8 * (l.length : Int) - 1 - (31 - (z : Int)) < at_
      · have FF : Hid (¬ fits l.length at_ m = true) := Lib.hid (fun h => by have := (FI.1 h).2; omega)
        clear FI
        go_wp2_with fail
        go_ret
        exact no.out (if_neg FF.out)
      · have HF := Lib.hid (FI.2 ⟨by omega, by omega⟩)
        obtain ⟨a, rfl⟩ : ∃ a : Nat, at_ = a := ⟨at_.toNat, by omega⟩
        have HFT : Hid (Fits l.length a m) := Lib.hid (by have := (fits_iff.1 HF.out).2; simpa using this)
        have hz' := ZL.out hm0
        have hl0 : 0 < l.length := by omega
        obtain ⟨q, rfl, hbr⟩ := BRow.of_own HO1.out hl0 HB1.out
        have BR := Lib.hid hbr
        clear FI FT no hbr HO1
        go_wp2_with fail
        go_loopg [32] 32 (fun g v wr => ∃ k : Nat, k + g = 32 ∧ v = .int .i64 k ∧ BRow w q c1 (fl l a m k) wr)
        case atStart => exact ⟨0, rfl, rfl, BR.out⟩
        case round =>
          obtain ⟨k, hk, rfl, hbr⟩ := hrel
          by_cases hk32 : k < 32
          · have hk0 : (0 : Int) ≤ 31 - (k : Int) := by omega
            have HBR := Lib.hid hbr
            have mt := mask_test m k hk32
            clear hbr
            cases hkb : m.getMsbD k
            · rw [hkb] at mt
              have FL : Hid (fl l a m (k + 1) = fl l a m k) := Lib.hid (by rw [fl, hkb]; rfl)
              clear hkb
              go_wp2_with fail
              go_roundg (gk - 1)
              case measure => omega
              case rel => exact ⟨k + 1, by omega, by go_num, by rw [FL.out]; exact HBR.out⟩
            · rw [hkb] at mt
              have FL : Hid (fl l a m (k + 1) = flip (fl l a m k) (a + k)) := Lib.hid (by rw [fl, hkb]; rfl)
              have hfk := HFT.out k hk32 hkb
              have LS : Hid (Small (fl l a m k)) := Lib.hid (fl_small HSM.out a m k)
              have LL : Hid ((fl l a m k).length = l.length) := Lib.hid (fl_length l a m k)
              obtain ⟨n, hna⟩ : ∃ n, n = a + k := ⟨_, rfl⟩
              have EN : Hid (IntKind.i64.wrap ((a : Int) + (k : Int)) = (n : Int)) := Lib.hid (by rw [IntKind.wrap_i64]; omega)
              have hn9 : n ≤ 800000 := by omega
              have hn8 : n / 8 < l.length := by omega
              rw [← hna] at FL
              generalize fl l a m k = L at *
              have EX := Lib.hid (turn_byte LS.out n)
              obtain ⟨cur, hcu⟩ : ∃ cur : Array Value, wr.heap[q]? = some (.cells cur 5 (0, 0)) := ⟨_, HBR.out.choose_spec.1⟩
              have HCU := Lib.hid hcu
              have HC0 : Hid (cur[n / 8]? = some (.int .u8 (L.getD (n / 8) 0))) := Lib.hid ((cell_of_block hcu (n / 8)).symm.trans (HBR.out.cell (by rw [LL.out]; exact hn8)))
              have E4 : Hid (IntKind.i64.wrap ((n : Int) / 8) = ((n / 8 : Nat) : Int)) := Lib.hid (by rw [IntKind.wrap_i64]; omega)
              clear hkb hna hcu hfk
              obtain ⟨d8, hd8⟩ : ∃ d8, n / 8 = d8 := ⟨_, rfl⟩
              have HD8 := Lib.hid hd8
              rw [hd8] at hn8 EX HC0 E4
              have EX2 : Hid (bits .xor .u8 (L[d8]?.getD 0) (128 / 2 ^ (n % 8)) = (((L.getD d8 0).toNat ^^^ 2 ^ (7 - n % 8) : Nat) : Int)) := Lib.hid (by have := EX.out; rwa [List.getD_eq_getElem?_getD] at this ⊢)
              have E10 : Hid ((n : Int).tmod 8 = ((n % 8 : Nat) : Int)) := Lib.hid (by rw [Int.tmod_eq_emod_of_nonneg (by omega)]; omega)
              clear hd8
              go_upto_region 9 with fail
              rw [show decide ((k : Int) < 32) = true from decide_eq_true (by omega)]
              apply wp_region_words3 (CutE q d8 14) (CutI wr q 14)
                [isVal _, isVal _, isVal _, isVal (.int .i64 (n : Int)), isVal (.int .i64 (d8 : Int)), isVal _, isVal (.int .u8 (L.getD d8 0)), isVal _, isVal _, isVal (.int .i64 (n : Int)), isVal (.int .i64 ((n % 8 : Nat) : Int)), isVal (.int .u8 (128 / 2 ^ (n % 8))), isVal (.int .u8 ((((L.getD d8 0).toNat ^^^ 2 ^ (7 - n % 8) : Nat)) : Int)), isVal _, CutD wr q d8 5 cur (.int .u8 ((((L.getD d8 0).toNat ^^^ 2 ^ (7 - n % 8) : Nat)) : Int))]
                [[], [], [], [1, 2], [3], [0, 4], [5], [], [], [7, 8], [9], [10], [6, 11], [0, 4], [12, 13]] [0, 1, 2, 3, 4, 5, 6, 7, 8, 9, 10, 11, 12, 13, 14] (by kernel_rfl) (by kernel_rfl) ?hF ?stand ?hI ?steps ?fin
              case hF => intro v; simp [fillFrom, Act.put]; rfl
              case stand =>
                refine And.intro ?_ ?_
                · (intro k u w w' _ _ h _; exact h)
                refine And.intro ?_ ?_
                · (intro k u w w' _ _ h _; exact h)
                refine And.intro ?_ ?_
                · (intro k u w w' _ _ h _; exact h)
                refine And.intro ?_ ?_
                · (intro k u w w' _ _ h _; exact h)
                refine And.intro ?_ ?_
                · (intro k u w w' _ _ h _; exact h)
                refine And.intro ?_ ?_
                · (intro k u w w' _ _ h _; exact h)
                refine And.intro ?_ ?_
                · (intro k u w w' _ _ h _; exact h)
                refine And.intro ?_ ?_
                · (intro k u w w' _ _ h _; exact h)
                refine And.intro ?_ ?_
                · (intro k u w w' _ _ h _; exact h)
                refine And.intro ?_ ?_
                · (intro k u w w' _ _ h _; exact h)
                refine And.intro ?_ ?_
                · (intro k u w w' _ _ h _; exact h)
                refine And.intro ?_ ?_
                · (intro k u w w' _ _ h _; exact h)
                refine And.intro ?_ ?_
                · (intro k u w w' _ _ h _; exact h)
                refine And.intro ?_ ?_
                · (intro k u w w' _ _ h _; exact h)
                refine And.intro ?_ ?_
                · exact cutD_stand rfl
                exact trivial
              case hI => exact cutI_start
              case steps =>
                refine And.intro ?_ ?_
                · intro dn v w' hdk hI hdn hcl hd K hK
                  simp only [allOf, word, List.getD_cons_zero, List.getD_cons_succ, isVal, and_true, true_and] at hd
                  have HK := Lib.hid hK
                  clear hK
                  go_simp
                  exact HK.out _ _ rfl hI.pass (rfl)
                refine And.intro ?_ ?_
                · intro dn v w' hdk hI hdn hcl hd K hK
                  simp only [allOf, word, List.getD_cons_zero, List.getD_cons_succ, isVal, and_true, true_and] at hd
                  have HK := Lib.hid hK
                  clear hK
                  go_simp
                  exact HK.out _ _ rfl hI.pass (rfl)
                refine And.intro ?_ ?_
                · intro dn v w' hdk hI hdn hcl hd K hK
                  simp only [allOf, word, List.getD_cons_zero, List.getD_cons_succ, isVal, and_true, true_and] at hd
                  have HK := Lib.hid hK
                  clear hK
                  go_simp
                  exact HK.out _ _ rfl hI.pass (rfl)
                refine And.intro ?_ ?_
                · intro dn v w' hdk hI hdn hcl hd K hK
                  simp only [allOf, word, List.getD_cons_zero, List.getD_cons_succ, isVal, and_true, true_and] at hd
                  try simp only [hd] at hK
                  have HK := Lib.hid hK
                  clear hK
                  go_simp
                  exact HK.out _ _ (by first | (rw [EN.out]; exact rfl) | exact rfl) hI.pass (rfl)
                refine And.intro ?_ ?_
                · intro dn v w' hdk hI hdn hcl hd K hK
                  simp only [allOf, word, List.getD_cons_zero, List.getD_cons_succ, isVal, and_true, true_and] at hd
                  try simp only [hd] at hK
                  have HK := Lib.hid hK
                  clear hK
                  go_simp
                  exact HK.out _ _ (by rw [E4.out]; exact rfl) hI.pass (rfl)
                refine And.intro ?_ ?_
                · intro dn v w' hdk hI hdn hcl hd K hK
                  simp only [allOf, word, List.getD_cons_zero, List.getD_cons_succ, isVal, and_true, true_and] at hd
                  try simp only [hd] at hK
                  have HK := Lib.hid hK
                  clear hK
                  go_simp
                  exact HK.out _ _ rfl hI.pass (rfl)
                refine And.intro ?_ ?_
                · intro dn v w' hdk hI hdn hcl hd K hK
                  simp only [allOf, word, List.getD_cons_zero, List.getD_cons_succ, isVal, and_true, true_and] at hd
                  simp only [hd] at hK
                  have d14 := undone (q := 14) hcl (undone (q := 12) hcl hdk (by decide)) (by decide)
                  have cc : w'.cell? ⟨q, d8, none⟩ = some (.int .u8 (L.getD d8 0)) := (hI.cell d14 HCU.out _).trans HC0.out
                  have HK := Lib.hid hK
                  clear hK
                  go_simp
                  exact HK.out _ _ rfl hI.pass (rfl)
                refine And.intro ?_ ?_
                · intro dn v w' hdk hI hdn hcl hd K hK
                  simp only [allOf, word, List.getD_cons_zero, List.getD_cons_succ, isVal, and_true, true_and] at hd
                  have HK := Lib.hid hK
                  clear hK
                  go_simp
                  exact HK.out _ _ rfl hI.pass (rfl)
                refine And.intro ?_ ?_
                · intro dn v w' hdk hI hdn hcl hd K hK
                  simp only [allOf, word, List.getD_cons_zero, List.getD_cons_succ, isVal, and_true, true_and] at hd
                  have HK := Lib.hid hK
                  clear hK
                  go_simp
                  exact HK.out _ _ rfl hI.pass (rfl)
                refine And.intro ?_ ?_
                · intro dn v w' hdk hI hdn hcl hd K hK
                  simp only [allOf, word, List.getD_cons_zero, List.getD_cons_succ, isVal, and_true, true_and] at hd
                  try simp only [hd] at hK
                  have HK := Lib.hid hK
                  clear hK
                  go_simp
                  exact HK.out _ _ (by first | (rw [EN.out]; exact rfl) | exact rfl) hI.pass (rfl)
                refine And.intro ?_ ?_
                · intro dn v w' hdk hI hdn hcl hd K hK
                  simp only [allOf, word, List.getD_cons_zero, List.getD_cons_succ, isVal, and_true, true_and] at hd
                  try simp only [hd] at hK
                  have HK := Lib.hid hK
                  clear hK
                  go_simp
                  exact HK.out _ _ (by rw [E10.out]; exact rfl) hI.pass (rfl)
                refine And.intro ?_ ?_
                · intro dn v w' hdk hI hdn hcl hd K hK
                  simp only [allOf, word, List.getD_cons_zero, List.getD_cons_succ, isVal, and_true, true_and] at hd
                  try simp only [hd] at hK
                  have HK := Lib.hid hK
                  clear hK
                  go_simp
                  exact HK.out _ _ (by first | exact rfl | trace_state) hI.pass (rfl)
                refine And.intro ?_ ?_
                · intro dn v w' hdk hI hdn hcl hd K hK
                  simp only [allOf, word, List.getD_cons_zero, List.getD_cons_succ, isVal, and_true, true_and] at hd
                  try simp only [hd] at hK
                  have HK := Lib.hid hK
                  clear hK
                  go_simp
                  exact HK.out _ _ (by rw [EX2.out]; exact rfl) hI.pass (rfl)
                refine And.intro ?_ ?_
                · intro dn v w' hdk hI hdn hcl hd K hK
                  simp only [allOf, word, List.getD_cons_zero, List.getD_cons_succ, isVal, and_true, true_and] at hd
                  try simp only [hd] at hK
                  have HK := Lib.hid hK
                  clear hK
                  go_simp
                  exact HK.out _ _ rfl hI.pass (rfl)
                refine And.intro ?_ ?_
                · intro dn v w' hdk hI hdn hcl hd K hK
                  simp only [allOf, word, List.getD_cons_zero, List.getD_cons_succ, isVal, and_true, true_and] at hd
                  simp only [hd] at hK
                  have d14 := hdk
                  have cc : w'.cell? ⟨q, d8, none⟩ = some (.int .u8 (L.getD d8 0)) := (hI.cell d14 HCU.out _).trans HC0.out
                  have f14 := hI.free hdk HCU.out d8
                  have HK := Lib.hid hK
                  clear hK
                  go_simp
                  exact HK.out undef _ (cutD_at hI hdk HCU.out undef) (hI.set rfl _) ⟨_, rfl⟩
                exact trivial
              intro v w8 dn hall hI hd
              simp only [allOf, word, List.getD_cons_zero, List.getD_cons_succ, isVal, and_true, true_and] at hd
              obtain ⟨h0, h1, h2, h3, h4, h5, h6, h7, h8, h9, h10, h11, h12, h13, ⟨hh8, hk8⟩⟩ := hd
              simp only [h0, h1, h2, h3, h4, h5, h6, h7, h8, h9, h10, h11, h12, h13]
              clear h0 h1 h2 h3 h4 h5 h6 h7 h8 h9 h10 h11 h12 h13
              have HS8 : Hid (BRow w q c1 (fl l a m (k + 1)) w8) := Lib.hid (by
                rw [FL.out, flip, HD8.out]
                refine HBR.out.set (by rw [LL.out]; exact hn8) _ hk8 (fun cur' hc' => ?_)
                rw [HCU.out] at hc'
                injection hc' with hc'
                injection hc' with hc'
                rw [← hc']
                exact hh8)
              clear hh8 hk8 hI
              go_wp2_with fail
              go_roundg (gk - 1)
              case measure => omega
              case rel => exact ⟨k + 1, by omega, by go_num, HS8.out⟩
          · obtain rfl : k = 32 := by omega
            have HR := Lib.hid hbr
            clear hbr
            go_wp2_with fail
            go_ret
            refine ⟨_, c1, rfl, ?_, ?_⟩
            · have h := HR.out.own
              rw [fl_length] at h
              rw [burst, if_pos HF.out]
              exact h
            · obtain ⟨cur, _, _, _, _, _, h6, _⟩ := HR.out
              exact h6
end Go.Proofs.YtgpfjeoomaadoaaDoor.Crc
