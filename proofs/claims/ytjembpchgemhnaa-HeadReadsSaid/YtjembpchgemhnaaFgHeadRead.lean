/- Contracts of head's fault and Read. Conditions: none beyond each lemma's own hypotheses. -/
import Derived.Test.YtjembpchgemhnaaFgHeadMake
import Derived.Deep.RegionHeld3
import Derived.Deep.DeepCutAuto
import Derived.Test.YtjembpchgemhnaaFgWords
set_option linter.unusedVariables false
set_option linter.unusedSimpArgs false
namespace Go.Proofs.Ytjembpchgemhnaa.Head
open Go.RowKit Go.Proofs.Ytjembpchgemhnaa.Fg

def at0 (l : List Int) (j : Nat) : Int := l.getD j 0
theorem at0_eq {l : List Int} {j : Nat} (h : j < l.length) : l[j] = at0 l j := by rw [at0, List.getD_eq_getElem?_getD, List.getElem?_eq_getElem h]; rfl
theorem at0_bd {l : List Int} (h : Small l) (j : Nat) : 0 ≤ at0 l j ∧ at0 l j ≤ 255 := by
  by_cases hj : j < l.length
  · rw [← at0_eq hj]; exact h _ (List.getElem_mem hj)
  · rw [at0, List.getD_eq_getElem?_getD, List.getElem?_eq_none (by omega)]; simp
/-- How long a header says that it is. -/
def hlen (l : List Int) : Nat := (at0 l 0 % 16 * 4).toNat
/-- Why bytes are no packet. -/
def fault (l : List Int) : Int :=
  if l.length < 20 then 51 else if at0 l 0 / 16 ≠ 4 then 52 else
  if hlen l < 20 ∨ l.length < hlen l ∨ at0 l 2 * 256 + at0 l 3 ≠ l.length ∨ 1500 < l.length then 53 else
  if sumH (l.take (hlen l)) ≠ 0 then 54 else 0

theorem get0_any (l : List Int) (hb : Small l) (hn : l.length ≤ 100000) (A : Option Addr) (c : Nat) (w : World) (hs : Src w A l.length c (bv l)) (z : Int) (j : Nat) (hz : z = j) (hj : j + 1 < l.length) :
    Calls Try.prog 22 #[.slice A l.length c, .int .i64 z] w fun e w' => e = .returned (.int .i64 (at0 l j * 256 + at0 l (j + 1))) ∧ ∃ q, w' = w.drewN q := by
  subst hz
  rw [← at0_eq hj, ← at0_eq (by omega : j < l.length)]
  exact get_any l hb hn j hj A c w hs

/-- A source's bytes, seen from a later world. -/
theorem src_cells {w : World} {ad : Addr} {c : Nat} {l : List Int} (h : Src w (some ad) l.length c (bv l)) {j : Nat} (hj : j < l.length) : w.cell? (ad.add j) = some (.int .u8 (at0 l j)) := by
  obtain ⟨ad', e, hc⟩ := src_at h hj
  injection e with e
  subst e
  rw [hc, at0_eq hj]
theorem src_take {w : World} {A : Option Addr} {c n : Nat} {l : List Int} (h : Src w A l.length c (bv l)) (hn : n ≤ l.length) : Src w A n c (bv (l.take n)) := by
  refine ⟨fun hA => ⟨by have := (h.nil hA).1; omega, (h.nil hA).2⟩, by have := h.cap; omega, h.most, fun ad had q u hu => ?_⟩
  refine h.cells ad had q u ?_
  simp only [bv, List.getElem?_map] at hu ⊢
  have hq : q < n := by
    rcases Nat.lt_or_ge q n with h | h
    · exact h
    · rw [List.getElem?_eq_none (by rw [List.length_take]; omega)] at hu; cases hu
  rw [List.getElem?_take_of_lt hq] at hu
  exact hu
theorem src_drop {w : World} {ad : Addr} {c n : Nat} {l : List Int} (h : Src w (some ad) l.length c (bv l)) (hn : n ≤ l.length) : Src w (some (ad.add n)) (l.length - n) (c - n) (bv (l.drop n)) := by
  refine ⟨(fun h => by cases h), by have := h.cap; omega, by have := h.most; omega, fun a had q u hu => ?_⟩
  injection had with had
  subst had
  rw [Addr.add_add]
  refine h.cells ad rfl (n + q) u ?_
  simp only [bv, List.getElem?_map, List.getElem?_drop] at hu ⊢
  exact hu
theorem src_drewN {w : World} {A : Option Addr} {n c : Nat} {vs : List Value} (h : Src w A n c vs) (q : Nat) : Src (w.drewN q) A n c vs := h.same fun _ _ _ => rfl

set_option maxRecDepth 100000 in
set_option maxHeartbeats 1000000 in
theorem fault_any (l : List Int) (hb : Small l) (hn : l.length ≤ 100000) (A : Option Addr) (c : Nat) (w : World) (hs : Src w A l.length c (bv l)) :
    Calls Try.prog 21 #[.slice A l.length c] w fun e w' => e = .returned (.int .i64 (fault l)) ∧ ∃ q, w' = w.drewN q := by
  by_cases h20 : l.length < 20
  · have HF : Hid (fault l = 51) := Lib.hid (by rw [fault, if_pos h20])
    have h20' : decide ((l.length : Int) < 20) = true := by simp; omega
    go_enter Try.func21, Try.ntmps21
    go_wp2_with fail
    go_ret
    exact ⟨by rw [HF.out]; rfl, 0, rfl⟩
  · have h20' : decide ((l.length : Int) < 20) = false := by simp; omega
    cases A with
    | none => have := (hs.nil rfl).1; omega
    | some ad =>
      have c0 := src_cells hs (by omega : 0 < l.length)
      rw [show ad.add 0 = ad by simp [Addr.add]] at c0
      have hx := at0_bd hb 0
      have l0 : 0 < l.length := by omega
      have HS := Lib.hid hs
      have HB := Lib.hid hb
      clear hs hb
      by_cases h4 : at0 l 0 / 16 = 4
      · have h4' : ((at0 l 0 / 16) != 4) = false := by rw [bne_eq_false_iff_eq]; exact h4
        have ha : bits .and .u8 (at0 l 0) 15 = at0 l 0 % 16 := and_u8_15 _ hx.1 hx.2
        have HZ : Hid (at0 l 0 % 16 * 4 = (hlen l : Int)) := Lib.hid (by rw [hlen]; omega)
        have hz : hlen l ≤ 60 := by rw [hlen]; omega
        have HF : Hid (fault l = if hlen l < 20 ∨ l.length < hlen l ∨ at0 l 2 * 256 + at0 l 3 ≠ l.length ∨ 1500 < l.length then 53 else if sumH (l.take (hlen l)) ≠ 0 then 54 else 0) := Lib.hid (by rw [fault, if_neg h20, if_neg (by omega)])
        have HG := Lib.hid (fun w' hs' => get_any l HB.out hn 2 (by omega) (some ad) c w' hs')
        generalize hlen l = z at *
        clear h4
        go_enter Try.func21, Try.ntmps21
        go_upto_region 6 with fail
        rw [HZ.out]
        clear c0 ha HZ
        by_cases z1 : (z : Int) < 20
        · have HF2 : Hid (fault l = 53) := Lib.hid (by rw [HF.out, if_pos (.inl (by omega))])
          go_wp2_with fail
          go_ret
          exact ⟨by rw [HF2.out]; rfl, 0, rfl⟩
        · by_cases z2 : (l.length : Int) < (z : Int)
          · have HF2 : Hid (fault l = 53) := Lib.hid (by rw [HF.out, if_pos (.inr (.inl (by omega)))])
            go_wp2_with fail
            go_ret
            exact ⟨by rw [HF2.out]; rfl, 0, rfl⟩
          · have z3 : z ≤ c := by have := HS.out.cap; omega
            have z3' : (z : Int) ≤ (c : Int) := by omega
            go_wp2_with fail
            refine (HG.out _ HS.out).mono ?_
            rintro e w1 ⟨rfl, q, rfl⟩
            rw [at0_eq (by omega : 2 < l.length), at0_eq (by omega : 2 + 1 < l.length)]
            by_cases z4 : at0 l 2 * 256 + at0 l 3 = l.length
            · have z4' : ((at0 l 2 * 256 + at0 l 3) != (l.length : Int)) = false := by rw [bne_eq_false_iff_eq]; exact z4
              by_cases z5 : 1500 < (l.length : Int)
              · have HF2 : Hid (fault l = 53) := Lib.hid (by rw [HF.out, if_pos (.inr (.inr (.inr (by omega))))])
                clear z4
                go_wp2_with fail
                go_ret
                exact ⟨by rw [HF2.out]; rfl, q, rfl⟩
              · have lz : (l.take z).length = z := by rw [List.length_take]; omega
                have HSM : Hid (∀ w', Src w' (some ad) l.length c (bv l) → Calls Try.prog 14 #[.slice (some ad) z c] w' fun e w2 => e = .returned (.int .u16 (sumH (l.take z))) ∧ w2 = w') := Lib.hid (fun w' hs' => by
                  have := sum_any (l.take z) (HB.out.take z) (by omega) (some ad) c w' (by rw [lz]; exact src_take hs' (by omega))
                  rw [lz] at this
                  exact this)
                have HF2 : Hid (fault l = if sumH (l.take z) ≠ 0 then 54 else 0) := Lib.hid (by rw [HF.out, if_neg (by omega)])
                clear z4 lz
                generalize sumH (l.take z) = sm at *
                go_wp2_with fail
                refine (HSM.out _ (src_drewN HS.out q)).mono ?_
                rintro e w2 ⟨rfl, rfl⟩
                by_cases z6 : sm = 0
                · have z6' : (sm != 0) = false := by rw [bne_eq_false_iff_eq]; exact z6
                  rw [if_neg (by omega)] at HF2
                  clear z6
                  go_wp2_with fail
                  go_ret
                  exact ⟨by rw [HF2.out]; rfl, q, rfl⟩
                · have z6' : (sm != 0) = true := by rw [bne_iff_ne]; exact z6
                  rw [if_pos z6] at HF2
                  clear z6
                  go_wp2_with fail
                  go_ret
                  exact ⟨by rw [HF2.out]; rfl, q, rfl⟩
            · have z4' : ((at0 l 2 * 256 + at0 l 3) != (l.length : Int)) = true := by rw [bne_iff_ne]; exact z4
              have HF2 : Hid (fault l = 53) := Lib.hid (by rw [HF.out, if_pos (.inr (.inr (.inl (by omega))))])
              clear z4
              go_wp2_with fail
              go_ret
              exact ⟨by rw [HF2.out]; rfl, q, rfl⟩
      · have h4' : ((at0 l 0 / 16) != 4) = true := by rw [bne_iff_ne]; exact h4
        have HF : Hid (fault l = 52) := Lib.hid (by rw [fault, if_neg h20, if_pos h4])
        clear h4
        go_enter Try.func21, Try.ntmps21
        go_wp2_with fail
        go_ret
        exact ⟨by rw [HF.out]; rfl, 0, rfl⟩

/-- The header that bytes tell. -/
def headOf (l : List Int) : Hd := ⟨at0 l 1, at0 l 4 * 256 + at0 l 5, at0 l 6 * 256 + at0 l 7, at0 l 8, at0 l 9, at0 l 12, at0 l 13, at0 l 14, at0 l 15, at0 l 16, at0 l 17, at0 l 18, at0 l 19, (l.drop 20).take (hlen l - 20)⟩
def noHd : Hd := ⟨0, 0, 0, 0, 0, 0, 0, 0, 0, 0, 0, 0, 0, []⟩
def readHd (l : List Int) : Hd := if fault l = 0 then headOf l else noHd
def readPl (l : List Int) : List Int := if fault l = 0 then l.drop (hlen l) else []
/-- What a Read leaves. -/
def ReadMade (l : List Int) (w : World) (e : Ending) (w' : World) : Prop :=
  ∃ A c A2 c2, e = .returned (.tuple #[.agg (hv (readHd l) A c), .slice A2 (readPl l).length c2, .int .i64 (fault l)]) ∧
    w'.ownsRow w.heap.size 5 1 (.slice A (readHd l).opts.length c) (readHd l).opts.length (bv (readHd l).opts) ∧
    w'.ownsRow w.heap.size 5 1 (.slice A2 (readPl l).length c2) (readPl l).length (bv (readPl l)) ∧ Below w.heap.size w w'
theorem ReadMade.yes {l : List Int} {w w' : World} {n1 n2 : Nat} {A A2 : Option Addr} {c c2 : Nat} (hf : fault l = 0) (h1 : (headOf l).opts.length = n1) (h2 : (l.drop (hlen l)).length = n2)
    (o1 : w'.ownsRow w.heap.size 5 1 (.slice A n1 c) n1 (bv (headOf l).opts)) (o2 : w'.ownsRow w.heap.size 5 1 (.slice A2 n2 c2) n2 (bv (l.drop (hlen l)))) (hb : Below w.heap.size w w') :
    ReadMade l w (.returned (.tuple #[.agg (hv (headOf l) A c), .slice A2 n2 c2, .int .i64 0])) w' := by
  have e1 : readHd l = headOf l := if_pos hf
  have e2 : readPl l = l.drop (hlen l) := if_pos hf
  refine ⟨A, c, A2, c2, ?_, ?_, ?_, hb⟩
  · rw [e1, e2, hf, h2]
  · rw [e1, h1]; exact o1
  · rw [e2, h2]; exact o2
theorem fault_zero {l : List Int} (h : fault l = 0) : 20 ≤ l.length ∧ l.length ≤ 1500 ∧ 20 ≤ hlen l ∧ hlen l ≤ l.length ∧ hlen l ≤ 60 := by
  unfold fault at h
  split at h
  · cases h
  · split at h
    · cases h
    · split at h
      · cases h
      · rename_i h1
        have : hlen l ≤ 60 := by rw [hlen]; omega
        omega
def zeros : Array Value := #[.int .i64 0, .int .i64 0, .int .i64 0, .int .i64 0, .int .i64 0, .int .u8 0, .int .u8 0, .int .u8 0, .int .u8 0, .int .u8 0, .int .u8 0, .int .u8 0, .int .u8 0, .slice none 0 0]
theorem ReadMade.no {l : List Int} {w w' : World} {f : Int} (hf : fault l = f) (h0 : f ≠ 0) (hb : Below w.heap.size w w') : ReadMade l w (.returned (.tuple #[.agg (hv noHd none 0), .slice none 0 0, .int .i64 f])) w' := by
  have e1 : readHd l = noHd := if_neg (by omega)
  have e2 : readPl l = [] := if_neg (by omega)
  refine ⟨none, 0, none, 0, ?_, ?_, ?_, hb⟩
  · rw [e1, e2, hf]; rfl
  · rw [e1]; exact World.ownsRow_nil _ _ _ _
  · rw [e2]; exact World.ownsRow_nil _ _ _ _

/-- A slice of bytes in new memory. -/
def OwnWord (base n : Nat) (l : List Int) (u : Value) (w : World) : Prop := ∃ A c, u = .slice A n c ∧ w.ownsRow base 5 1 (.slice A n c) n (bv l)
theorem ownWord_stand {base n : Nat} {l : List Int} {J : World → Prop} : ∀ (u : Value) (w w' : World), OwnWord base n l u w → J w → (∀ k, base ≤ k → k < w.heap.size → w'.heap[k]? = w.heap[k]?) → OwnWord base n l u w' := by
  rintro u w w' ⟨A, c, rfl, h⟩ _ hb
  exact ⟨A, c, rfl, own_same h fun k e => hb k (h.lt k e).1 (h.lt k e).2⟩

set_option maxRecDepth 100000 in
set_option maxHeartbeats 1000000 in
theorem read_any (l : List Int) (hb : Small l) (hn : l.length ≤ 100000) (A : Option Addr) (c : Nat) (w : World) (hs : Src w A l.length c (bv l)) :
    Calls Try.prog 11 #[.slice A l.length c] w (ReadMade l w) := by
  have SS : Hid (∀ w', Below w.heap.size w w' → Src w' A l.length c (bv l)) := Lib.hid (fun w' h => hs.same fun ad had hne => h.block _ (hs.lt had hne))
  have HFA := Lib.hid (fun w' h => fault_any l hb hn A c w' h)
  by_cases hf : fault l = 0
  · obtain ⟨q1, q2, q3, q4, q5⟩ := fault_zero hf
    have hf' : (fault l != 0) = false := by rw [bne_eq_false_iff_eq]; exact hf
    have YES := Lib.hid (fun w' n1 n2 A A2 c c2 => @ReadMade.yes l w w' n1 n2 A A2 c c2 hf)
    have HOPT : Hid ((headOf l).opts = (l.drop 20).take (hlen l - 20)) := Lib.hid rfl
    have HHV : Hid (∀ A c, hv (headOf l) A c = #[.int .i64 (at0 l 1), .int .i64 (at0 l 4 * 256 + at0 l 5), .int .i64 (at0 l 6 * 256 + at0 l 7), .int .i64 (at0 l 8), .int .i64 (at0 l 9), .int .u8 (at0 l 12), .int .u8 (at0 l 13), .int .u8 (at0 l 14), .int .u8 (at0 l 15), .int .u8 (at0 l 16), .int .u8 (at0 l 17), .int .u8 (at0 l 18), .int .u8 (at0 l 19), .slice A (headOf l).opts.length c]) := Lib.hid (fun _ _ => rfl)
    rw [hf] at HFA hf'
    clear hf
    cases A with
    | none => have := (hs.nil rfl).1; omega
    | some ad =>
      have hx := at0_bd hb 0
      have ha : bits .and .u8 (at0 l 0) 15 = at0 l 0 % 16 := and_u8_15 _ hx.1 hx.2
      have HZ : Hid (at0 l 0 % 16 * 4 = (hlen l : Int)) := Lib.hid (by rw [hlen]; omega)
      have G4 := Lib.hid (fun w' h => get0_any l hb hn (some ad) c w' h 4 4 rfl (by omega))
      have G6 := Lib.hid (fun w' h => get0_any l hb hn (some ad) c w' h 6 6 rfl (by omega))
      have hcap := hs.cap
      have HB := Lib.hid hb
      have CELL : Hid (∀ w', Below w.heap.size w w' → ∀ j, j < l.length → w'.cell? (ad.add j) = some (.int .u8 (at0 l j))) := Lib.hid (fun w' h j hj => src_cells (SS.out w' h) hj)
      have hcm := hs.most
      clear hs hb
      have l0 : 0 < l.length := by omega
      generalize hlen l = z at *
      go_enter Try.func11, Try.ntmps11
      go_wp2_with fail
      refine (HFA.out _ (SS.out _ ((Below.refl _ _).alloc (Nat.le_refl _) _))).mono ?_
      rintro e w1 ⟨rfl, q, rfl⟩
      have hb1 : ((w.alloc (.cells zeros 26)).drewN q).heap[w.heap.size]? = some (.cells zeros 26) := heap_alloc_at w _
      have B1 : Hid (Below w.heap.size w ((w.alloc (.cells zeros 26)).drewN q)) := Lib.hid (below_drewN ((Below.refl _ _).alloc (Nat.le_refl _) _) q)
      have hz1 : w.heap.size + 1 = ((w.alloc (.cells zeros 26)).drewN q).heap.size := by simp [zeros]
      unfold zeros at hb1 B1 hz1
      generalize (w.alloc (.cells _ 26)).drewN q = w1 at *
      have HB1 := Lib.hid hb1
      clear hb1 HFA
      have c0 := CELL.out w1 B1.out 0 (by omega)
      rw [show ad.add 0 = ad by simp [Addr.add]] at c0
      go_upto_region 5 with fail
      rw [HZ.out]
      clear c0 ha HZ
      have p1 : 1 < l.length := by omega
      have p8 : 8 < l.length := by omega
      have p9 : 9 < l.length := by omega
      have b1 := at0_bd HB.out 1
      have b8 := at0_bd HB.out 8
      have b9 := at0_bd HB.out 9
      have wr1 : IntKind.i64.wrap (at0 l 1) = at0 l 1 := by rw [IntKind.wrap_i64]; omega
      have wr8 : IntKind.i64.wrap (at0 l 8) = at0 l 8 := by rw [IntKind.wrap_i64]; omega
      have wr9 : IntKind.i64.wrap (at0 l 9) = at0 l 9 := by rw [IntKind.wrap_i64]; omega
      have p1' : (1 : Int) < (l.length : Int) := by omega
      have p8' : (8 : Int) < (l.length : Int) := by omega
      have p9' : (9 : Int) < (l.length : Int) := by omega
      have ea : ∀ j, 0 < j → ad.add j = ⟨ad.block, ad.off + j, none⟩ := fun j hj => by simp [Addr.add]; omega
      have CL0 : ∀ w', Below w1.heap.size w1 w' → ∀ j, 0 < j → j < l.length → w'.cell? ⟨ad.block, ad.off + j, none⟩ = some (.int .u8 (at0 l j)) := fun w' h j h0 hj => by
        rw [← ea j h0]; exact CELL.out w' (B1.out.trans (h.mono B1.out.size)) j hj
      have C1 := Lib.hid (fun w' h => CL0 w' h 1 (by omega) p1)
      have C8 := Lib.hid (fun w' h => CL0 w' h 8 (by omega) p8)
      have C9 := Lib.hid (fun w' h => CL0 w' h 9 (by omega) p9)
      have CL := Lib.hid CL0
      clear CL0
      clear ea
      go_cut [7] (fun s7 wx => ∃ g : Nat, s7 = .pointer (some ⟨g, 0, none⟩) ∧ wx.heap[g]? = some (.cells #[.int .i64 (at0 l 1), .int .i64 (at0 l 4 * 256 + at0 l 5), .int .i64 (at0 l 6 * 256 + at0 l 7), .int .i64 (at0 l 8), .int .i64 (at0 l 9), .int .u8 0, .int .u8 0, .int .u8 0, .int .u8 0, .int .u8 0, .int .u8 0, .int .u8 0, .int .u8 0, .slice none 0 0] 26) ∧ w1.heap.size ≤ g ∧ Below w1.heap.size w1 wx)
      case first =>
        apply wp_region_words2 (fun _ _ => True) (fun d w' => Below w1.heap.size w1 w' ∧ (d 17 = false → w'.heap.size = w1.heap.size) ∧ (d 17 = true → ∃ cs, w'.heap[w1.heap.size]? = some (.cells cs 26) ∧ cs.size = 14) ∧ (d 18 = true → w'.heap[w1.heap.size]? = some (.cells #[.int .i64 (at0 l 1), .int .i64 (at0 l 4 * 256 + at0 l 5), .int .i64 (at0 l 6 * 256 + at0 l 7), .int .i64 (at0 l 8), .int .i64 (at0 l 9), .int .u8 0, .int .u8 0, .int .u8 0, .int .u8 0, .int .u8 0, .int .u8 0, .int .u8 0, .int .u8 0, .slice none 0 0] 26)))
          [isVal _, isVal _, isVal _, isVal _, isVal _, isVal (.int .i64 (at0 l 4 * 256 + at0 l 5)), isVal _, isVal (.int .i64 (at0 l 6 * 256 + at0 l 7)), isVal _, isVal _, isVal _, isVal _, isVal _, isVal _, isVal _, isVal _, isVal _, isVal (.pointer (some ⟨w1.heap.size, 0, none⟩)), fun _ _ => True]
          [[], [0], [1], [2], [], [4], [], [6], [], [8], [9], [10], [], [12], [13], [14], [3, 5, 7, 11, 15], [], [16, 17]] [0, 1, 2, 3, 4, 5, 6, 7, 8, 9, 10, 11, 12, 13, 14, 15, 16, 17, 18] (by kernel_rfl) (by kernel_rfl) ?hF ?stand ?hI ?steps ?fin
        case hF => intro v; simp [fillFrom, Act.put]; rfl
        case stand =>
          repeat' (first | exact trivial | (refine And.intro ?_ ?_))
          all_goals first | (intro u w w' h _ _; exact h)
        case hI => exact ⟨below_dr (Below.refl _ _), fun _ => rfl, (fun h => by cases h), (fun h => by cases h)⟩
        case steps =>
          refine And.intro ?_ ?_
          · intro d v w' hdk hI hdn hd K hK
            simp only [allOf, word, List.getD_cons_zero, List.getD_cons_succ, isVal, and_true, true_and] at hd
            have HK := Lib.hid hK
            clear hK
            go_simp
            exact HK.out _ _ rfl (by simpa using hI) (trivial)
          refine And.intro ?_ ?_
          · intro d v w' hdk hI hdn hd K hK
            simp only [allOf, word, List.getD_cons_zero, List.getD_cons_succ, isVal, and_true, true_and] at hd
            try simp only [hd] at hK
            have HK := Lib.hid hK
            clear hK
            go_simp
            exact HK.out _ _ rfl (by simpa using hI) (trivial)
          refine And.intro ?_ ?_
          · intro d v w' hdk hI hdn hd K hK
            simp only [allOf, word, List.getD_cons_zero, List.getD_cons_succ, isVal, and_true, true_and] at hd
            simp only [hd] at hK
            have cc : w'.cell? ⟨ad.block, ad.off + 1, none⟩ = some (.int .u8 (at0 l 1)) := C1.out w' hI.1
            have HK := Lib.hid hK
            clear hK
            go_simp
            exact HK.out _ _ rfl (by simpa using hI) (trivial)
          refine And.intro ?_ ?_
          · intro d v w' hdk hI hdn hd K hK
            simp only [allOf, word, List.getD_cons_zero, List.getD_cons_succ, isVal, and_true, true_and] at hd
            try simp only [hd] at hK
            have HK := Lib.hid hK
            clear hK
            go_simp
            exact HK.out _ _ rfl (by simpa using hI) (trivial)
          refine And.intro ?_ ?_
          · intro d v w' hdk hI hdn hd K hK
            simp only [allOf, word, List.getD_cons_zero, List.getD_cons_succ, isVal, and_true, true_and] at hd
            have HK := Lib.hid hK
            clear hK
            go_simp
            exact HK.out _ _ rfl (by simpa using hI) (trivial)
          refine And.intro ?_ ?_
          · intro d v w' hdk hI hdn hd K hK
            simp only [allOf, word, List.getD_cons_zero, List.getD_cons_succ, isVal, and_true, true_and] at hd
            try simp only [hd] at hK
            have HK := Lib.hid hK
            clear hK
            go_simp
            refine (G4.out w' (SS.out w' (B1.out.trans (hI.1.mono B1.out.size)))).mono ?_
            rintro e w5 ⟨rfl, q, rfl⟩
            exact HK.out _ _ rfl ⟨below_drewN hI.1 q, by simpa using hI.2.1, by simpa using hI.2.2.1, by simpa using hI.2.2.2⟩ trivial
          refine And.intro ?_ ?_
          · intro d v w' hdk hI hdn hd K hK
            simp only [allOf, word, List.getD_cons_zero, List.getD_cons_succ, isVal, and_true, true_and] at hd
            have HK := Lib.hid hK
            clear hK
            go_simp
            exact HK.out _ _ rfl (by simpa using hI) (trivial)
          refine And.intro ?_ ?_
          · intro d v w' hdk hI hdn hd K hK
            simp only [allOf, word, List.getD_cons_zero, List.getD_cons_succ, isVal, and_true, true_and] at hd
            try simp only [hd] at hK
            have HK := Lib.hid hK
            clear hK
            go_simp
            refine (G6.out w' (SS.out w' (B1.out.trans (hI.1.mono B1.out.size)))).mono ?_
            rintro e w5 ⟨rfl, q, rfl⟩
            exact HK.out _ _ rfl ⟨below_drewN hI.1 q, by simpa using hI.2.1, by simpa using hI.2.2.1, by simpa using hI.2.2.2⟩ trivial
          refine And.intro ?_ ?_
          · intro d v w' hdk hI hdn hd K hK
            simp only [allOf, word, List.getD_cons_zero, List.getD_cons_succ, isVal, and_true, true_and] at hd
            have HK := Lib.hid hK
            clear hK
            go_simp
            exact HK.out _ _ rfl (by simpa using hI) (trivial)
          refine And.intro ?_ ?_
          · intro d v w' hdk hI hdn hd K hK
            simp only [allOf, word, List.getD_cons_zero, List.getD_cons_succ, isVal, and_true, true_and] at hd
            try simp only [hd] at hK
            have HK := Lib.hid hK
            clear hK
            go_simp
            exact HK.out _ _ rfl (by simpa using hI) (trivial)
          refine And.intro ?_ ?_
          · intro d v w' hdk hI hdn hd K hK
            simp only [allOf, word, List.getD_cons_zero, List.getD_cons_succ, isVal, and_true, true_and] at hd
            simp only [hd] at hK
            have cc : w'.cell? ⟨ad.block, ad.off + 8, none⟩ = some (.int .u8 (at0 l 8)) := C8.out w' hI.1
            have HK := Lib.hid hK
            clear hK
            go_simp
            exact HK.out _ _ rfl (by simpa using hI) (trivial)
          refine And.intro ?_ ?_
          · intro d v w' hdk hI hdn hd K hK
            simp only [allOf, word, List.getD_cons_zero, List.getD_cons_succ, isVal, and_true, true_and] at hd
            try simp only [hd] at hK
            have HK := Lib.hid hK
            clear hK
            go_simp
            exact HK.out _ _ rfl (by simpa using hI) (trivial)
          refine And.intro ?_ ?_
          · intro d v w' hdk hI hdn hd K hK
            simp only [allOf, word, List.getD_cons_zero, List.getD_cons_succ, isVal, and_true, true_and] at hd
            have HK := Lib.hid hK
            clear hK
            go_simp
            exact HK.out _ _ rfl (by simpa using hI) (trivial)
          refine And.intro ?_ ?_
          · intro d v w' hdk hI hdn hd K hK
            simp only [allOf, word, List.getD_cons_zero, List.getD_cons_succ, isVal, and_true, true_and] at hd
            try simp only [hd] at hK
            have HK := Lib.hid hK
            clear hK
            go_simp
            exact HK.out _ _ rfl (by simpa using hI) (trivial)
          refine And.intro ?_ ?_
          · intro d v w' hdk hI hdn hd K hK
            simp only [allOf, word, List.getD_cons_zero, List.getD_cons_succ, isVal, and_true, true_and] at hd
            simp only [hd] at hK
            have cc : w'.cell? ⟨ad.block, ad.off + 9, none⟩ = some (.int .u8 (at0 l 9)) := C9.out w' hI.1
            have HK := Lib.hid hK
            clear hK
            go_simp
            exact HK.out _ _ rfl (by simpa using hI) (trivial)
          refine And.intro ?_ ?_
          · intro d v w' hdk hI hdn hd K hK
            simp only [allOf, word, List.getD_cons_zero, List.getD_cons_succ, isVal, and_true, true_and] at hd
            try simp only [hd] at hK
            have HK := Lib.hid hK
            clear hK
            go_simp
            exact HK.out _ _ rfl (by simpa using hI) (trivial)
          refine And.intro ?_ ?_
          · intro d v w' hdk hI hdn hd K hK
            simp only [allOf, word, List.getD_cons_zero, List.getD_cons_succ, isVal, and_true, true_and] at hd
            try simp only [hd] at hK
            have HK := Lib.hid hK
            clear hK
            go_simp
            exact HK.out _ _ rfl (by simpa using hI) (trivial)
          refine And.intro ?_ ?_
          · intro d v w' hdk hI hdn hd K hK
            simp only [allOf, word, List.getD_cons_zero, List.getD_cons_succ, isVal, and_true, true_and] at hd
            have HK := Lib.hid hK
            clear hK
            go_simp
            refine HK.out _ _ rfl ⟨hI.1.alloc hI.1.size _, by simp, fun _ => ⟨_, by rw [← hI.2.1 hdk]; exact heap_alloc_at w' _, rfl⟩, fun h => ?_⟩ trivial
            have h1 := hI.2.2.2 (by simpa using h)
            have := block_lt h1
            have := hI.2.1 hdk
            omega
          refine And.intro ?_ ?_
          · intro d v w' hdk hI hdn hd K hK
            simp only [allOf, word, List.getD_cons_zero, List.getD_cons_succ, isVal, and_true, true_and] at hd
            obtain ⟨h16, h17⟩ := hd
            have HK := Lib.hid hK
            clear hK
            rw [if_pos (by rfl)]
            simp only [allTrue, List.getD_cons_zero, List.getD_cons_succ] at hdn
            have hI17 : d 17 = true := hdn.2.1
            obtain ⟨cs, g1, g2⟩ := hI.2.2.1 hI17
            refine wp_store_block 26 (.tmp 7) (.tmp 36) rfl w1.heap.size #[.int .i64 (at0 l 1), .int .i64 (at0 l 4 * 256 + at0 l 5), .int .i64 (at0 l 6 * 256 + at0 l 7), .int .i64 (at0 l 8), .int .i64 (at0 l 9), .int .u8 0, .int .u8 0, .int .u8 0, .int .u8 0, .int .u8 0, .int .u8 0, .int .u8 0, .int .u8 0, .slice none 0 0] h17 h16 cs _ g1 (by kernel_rfl) g2 (by kernel_rfl) ?_
            exact HK.out _ _ trivial ⟨below_setRow hI.1 (Nat.le_refl _) _, (fun h => by simp [hI17] at h), fun _ => ⟨_, setRow_at _ g1, rfl⟩, fun _ => setRow_at _ g1⟩ trivial
          exact trivial
        intro v wx d hall hI hd
        simp only [allOf, word, List.getD_cons_zero, List.getD_cons_succ, isVal, and_true, true_and] at hd
        obtain ⟨h0, h1, h2, h3, h4, h5, h6, h7, h8, h9, h10, h11, h12, h13, h14, h15, h16, h17⟩ := hd
        simp only [h0, h1, h2, h3, h4, h5, h6, h7, h8, h9, h10, h11, h12, h13, h14, h15, h16, h17]
        clear h0 h1 h2 h3 h4 h5 h6 h7 h8 h9 h10 h11 h12 h13 h14 h15 h16 h17
        go_wp2_with fail
        go_meet
        exact ⟨w1.heap.size, rfl, hI.2.2.2 (hall 18 (by decide)), Nat.le_refl _, hI.1⟩
      case rest =>
        obtain ⟨g, rfl, hg, hgz, hbw⟩ := hcut
        have HG := Lib.hid hg
        have BW := Lib.hid hbw
        clear hg hbw wr1 wr8 wr9 b1 b8 b9 p1 p8 p9 p1' p8' p9' G4 G6 C1 C8 C9
        have n12 : (12 : Int) ≤ (l.length : Int) := by omega
        have n16 : (16 : Int) ≤ (l.length : Int) := by omega
        have n12' : ¬ c = 12 := by omega
        have n16' : ¬ c = 16 := by omega
        go_wp2_with fail
        have hcp1 : (Builtin.copy_ #[24, 24] 3 #[.slice (some ⟨g, 5, none⟩) 4 4, .slice (some ⟨ad.block, ad.off + 12, none⟩) (l.length - 12) (c - 12)]).run Try.prog wc.drew = .ok (goInt 4) (wc.drew.setRow g #[.int .i64 (at0 l 1), .int .i64 (at0 l 4 * 256 + at0 l 5), .int .i64 (at0 l 6 * 256 + at0 l 7), .int .i64 (at0 l 8), .int .i64 (at0 l 9), .int .u8 (at0 l 12), .int .u8 (at0 l 13), .int .u8 (at0 l 14), .int .u8 (at0 l 15), .int .u8 0, .int .u8 0, .int .u8 0, .int .u8 0, .slice none 0 0]) := by
          have := run_copy_row (P := Try.prog) wc.drew 24 24 3 5 g 5 4 4 ⟨ad.block, ad.off + 12, none⟩ (l.length - 12) (c - 12) _ 26 (bv [at0 l 12, at0 l 13, at0 l 14, at0 l 15]) Try.underlying24 (by kernel_rfl) HG.out (by show _ = min (l.length - 12) 4; simp [bv]; omega) (fun j v hv => by
            rw [Addr.add_lit, World.cell?_drew]
            have hj : j < 4 := by have := (List.getElem?_eq_some_iff.1 hv).1; simpa [bv] using this
            rw [Nat.add_assoc, CL.out _ BW.out (12 + j) (by omega) (by omega), ← hv]
            match j, hj with
            | 0, _ => rfl
            | 1, _ => rfl
            | 2, _ => rfl
            | 3, _ => rfl) (by simp [bv]) (bv_one _)
          simpa [bv] using this
        have HGn := Lib.hid (setRow_at #[.int .i64 (at0 l 1), .int .i64 (at0 l 4 * 256 + at0 l 5), .int .i64 (at0 l 6 * 256 + at0 l 7), .int .i64 (at0 l 8), .int .i64 (at0 l 9), .int .u8 (at0 l 12), .int .u8 (at0 l 13), .int .u8 (at0 l 14), .int .u8 (at0 l 15), .int .u8 0, .int .u8 0, .int .u8 0, .int .u8 0, .slice none 0 0] (w := wc.drew) HG.out)
        have BWn : Hid (Below w1.heap.size w1 (wc.drew.setRow g #[.int .i64 (at0 l 1), .int .i64 (at0 l 4 * 256 + at0 l 5), .int .i64 (at0 l 6 * 256 + at0 l 7), .int .i64 (at0 l 8), .int .i64 (at0 l 9), .int .u8 (at0 l 12), .int .u8 (at0 l 13), .int .u8 (at0 l 14), .int .u8 (at0 l 15), .int .u8 0, .int .u8 0, .int .u8 0, .int .u8 0, .slice none 0 0])) := Lib.hid (below_setRow (below_dr BW.out) hgz _)
        go_region
        clear hcp1
        generalize wc.drew.setRow g #[.int .i64 (at0 l 1), .int .i64 (at0 l 4 * 256 + at0 l 5), .int .i64 (at0 l 6 * 256 + at0 l 7), .int .i64 (at0 l 8), .int .i64 (at0 l 9), .int .u8 (at0 l 12), .int .u8 (at0 l 13), .int .u8 (at0 l 14), .int .u8 (at0 l 15), .int .u8 0, .int .u8 0, .int .u8 0, .int .u8 0, .slice none 0 0] = wd at *
        go_wp2_with fail
        have hcp2 : (Builtin.copy_ #[24, 24] 3 #[.slice (some ⟨g, 9, none⟩) 4 4, .slice (some ⟨ad.block, ad.off + 16, none⟩) (l.length - 16) (c - 16)]).run Try.prog wd.drew = .ok (goInt 4) (wd.drew.setRow g #[.int .i64 (at0 l 1), .int .i64 (at0 l 4 * 256 + at0 l 5), .int .i64 (at0 l 6 * 256 + at0 l 7), .int .i64 (at0 l 8), .int .i64 (at0 l 9), .int .u8 (at0 l 12), .int .u8 (at0 l 13), .int .u8 (at0 l 14), .int .u8 (at0 l 15), .int .u8 (at0 l 16), .int .u8 (at0 l 17), .int .u8 (at0 l 18), .int .u8 (at0 l 19), .slice none 0 0]) := by
          have := run_copy_row (P := Try.prog) wd.drew 24 24 3 5 g 9 4 4 ⟨ad.block, ad.off + 16, none⟩ (l.length - 16) (c - 16) _ 26 (bv [at0 l 16, at0 l 17, at0 l 18, at0 l 19]) Try.underlying24 (by kernel_rfl) HGn.out (by show _ = min (l.length - 16) 4; simp [bv]; omega) (fun j v hv => by
            rw [Addr.add_lit, World.cell?_drew]
            have hj : j < 4 := by have := (List.getElem?_eq_some_iff.1 hv).1; simpa [bv] using this
            rw [Nat.add_assoc, CL.out _ BWn.out (16 + j) (by omega) (by omega), ← hv]
            match j, hj with
            | 0, _ => rfl
            | 1, _ => rfl
            | 2, _ => rfl
            | 3, _ => rfl) (by simp [bv]) (bv_one _)
          simpa [bv] using this
        have HGnn := Lib.hid (setRow_at #[.int .i64 (at0 l 1), .int .i64 (at0 l 4 * 256 + at0 l 5), .int .i64 (at0 l 6 * 256 + at0 l 7), .int .i64 (at0 l 8), .int .i64 (at0 l 9), .int .u8 (at0 l 12), .int .u8 (at0 l 13), .int .u8 (at0 l 14), .int .u8 (at0 l 15), .int .u8 (at0 l 16), .int .u8 (at0 l 17), .int .u8 (at0 l 18), .int .u8 (at0 l 19), .slice none 0 0] (w := wd.drew) HGn.out)
        have BWnn : Hid (Below w1.heap.size w1 (wd.drew.setRow g #[.int .i64 (at0 l 1), .int .i64 (at0 l 4 * 256 + at0 l 5), .int .i64 (at0 l 6 * 256 + at0 l 7), .int .i64 (at0 l 8), .int .i64 (at0 l 9), .int .u8 (at0 l 12), .int .u8 (at0 l 13), .int .u8 (at0 l 14), .int .u8 (at0 l 15), .int .u8 (at0 l 16), .int .u8 (at0 l 17), .int .u8 (at0 l 18), .int .u8 (at0 l 19), .slice none 0 0])) := Lib.hid (below_setRow (below_dr BWn.out) hgz _)
        go_region
        clear hcp2
        generalize wd.drew.setRow g #[.int .i64 (at0 l 1), .int .i64 (at0 l 4 * 256 + at0 l 5), .int .i64 (at0 l 6 * 256 + at0 l 7), .int .i64 (at0 l 8), .int .i64 (at0 l 9), .int .u8 (at0 l 12), .int .u8 (at0 l 13), .int .u8 (at0 l 14), .int .u8 (at0 l 15), .int .u8 (at0 l 16), .int .u8 (at0 l 17), .int .u8 (at0 l 18), .int .u8 (at0 l 19), .slice none 0 0] = we at *
        have lo : ((l.drop 20).take (z - 20)).length = z - 20 := by rw [List.length_take, List.length_drop]; omega
        have lp : (l.drop z).length = l.length - z := List.length_drop
        have CLN : Hid (∀ A' c' w', Src w' A' (z - 20) c' (bv ((l.drop 20).take (z - 20))) → Calls Try.prog 23 #[.slice A' (z - 20) c'] w' fun e w2 => ∃ Ao co, e = .returned (.slice Ao (z - 20) co) ∧ w2.ownsRow w'.heap.size 5 1 (.slice Ao (z - 20) co) (z - 20) (bv ((l.drop 20).take (z - 20))) ∧ Below w'.heap.size w' w2) := Lib.hid (fun A' c' w' h => by
          have hc := clone_any ((l.drop 20).take (z - 20)) A' c' w' (by rw [lo]; exact h) (by rw [lo]; omega)
          rw [lo] at hc
          refine hc.mono ?_
          rintro e w2 ⟨v, rfl, ho, hb, -⟩
          rw [lo] at ho
          obtain ⟨Ao, co, rfl, -⟩ := own_form ho
          exact ⟨Ao, co, rfl, ho, hb⟩)
        have CLN2 : Hid (∀ A' c' w', Src w' A' (l.length - z) c' (bv (l.drop z)) → Calls Try.prog 23 #[.slice A' (l.length - z) c'] w' fun e w2 => ∃ Ao co, e = .returned (.slice Ao (l.length - z) co) ∧ w2.ownsRow w'.heap.size 5 1 (.slice Ao (l.length - z) co) (l.length - z) (bv (l.drop z)) ∧ Below w'.heap.size w' w2) := Lib.hid (fun A' c' w' h => by
          have hc := clone_any (l.drop z) A' c' w' (by rw [lp]; exact h) (by rw [lp]; omega)
          rw [lp] at hc
          refine hc.mono ?_
          rintro e w2 ⟨v, rfl, ho, hb, -⟩
          rw [lp] at ho
          obtain ⟨Ao, co, rfl, -⟩ := own_form ho
          exact ⟨Ao, co, rfl, ho, hb⟩)
        have sub : ∀ n, 0 < n → n ≤ l.length → ∀ w', Below w.heap.size w w' → Src w' (some ⟨ad.block, ad.off + n, none⟩) (l.length - n) (c - n) (bv (l.drop n)) := fun n h0 h w' hb => by
          have h1 := src_drop (SS.out w' hb) h
          rw [show ad.add n = ⟨ad.block, ad.off + n, none⟩ by simp [Addr.add]; omega] at h1
          exact h1
        have SUB := Lib.hid sub
        have LO := Lib.hid lo
        have LP := Lib.hid lp
        have hzc : z ≤ c := by omega
        have hgs : g < we.heap.size := block_lt HGnn.out
        clear sub lo lp
        go_upto_region 8 with fail
        go_cut [] (fun wx => ∃ Ao co, wx.heap[g]? = some (.cells #[.int .i64 (at0 l 1), .int .i64 (at0 l 4 * 256 + at0 l 5), .int .i64 (at0 l 6 * 256 + at0 l 7), .int .i64 (at0 l 8), .int .i64 (at0 l 9), .int .u8 (at0 l 12), .int .u8 (at0 l 13), .int .u8 (at0 l 14), .int .u8 (at0 l 15), .int .u8 (at0 l 16), .int .u8 (at0 l 17), .int .u8 (at0 l 18), .int .u8 (at0 l 19), .slice Ao (z - 20) co] 26) ∧ wx.ownsRow w1.heap.size 5 1 (.slice Ao (z - 20) co) (z - 20) (bv ((l.drop 20).take (z - 20))) ∧ Below w1.heap.size w1 wx)
        case first =>
          go_wp2_with fail
          · subst h
            obtain rfl : z = 20 := by omega
            refine (CLN.out _ _ _ (⟨(fun h => by cases h), by omega, by simp [maxLen], fun a' had j u hu => by simp [bv] at hu⟩)).mono ?_
            rintro e w2 ⟨Ao, co, rfl, ho, hb⟩
            have hg2 := (hb.block g hgs).trans HGnn.out
            have hc13 := cell_of_block hg2 13
            have hf13 := free_of_block hg2 13
            simp only [List.getElem?_toArray] at hc13
            have HO := Lib.hid ho
            have HB := Lib.hid hb
            have HG2 := Lib.hid hg2
            clear ho hb hg2
            go_wp2_with fail
            go_meet
            refine ⟨Ao, co, ?_, ?_, ?_⟩
            · have := hset_at _ g 13 (.slice Ao (20 - 20) co) HG2.out
              simpa using this
            · refine own_base (own_same HO.out fun k e => hset_other _ _ _ ?_) BWnn.out.size
              have := HO.out.lt k e
              intro e2
              subst e2
              omega
            · exact (BWnn.out.trans (HB.out.mono BWnn.out.size)).setCell hgz _
          · refine (CLN.out _ _ _ (by have h1 := SUB.out 20 (by omega) (by omega) we (B1.out.trans (BWnn.out.mono B1.out.size)); rw [← List.length_drop] at h1; exact src_take h1 (by rw [List.length_drop]; omega))).mono ?_
            rintro e w2 ⟨Ao, co, rfl, ho, hb⟩
            have hg2 := (hb.block g hgs).trans HGnn.out
            have hc13 := cell_of_block hg2 13
            have hf13 := free_of_block hg2 13
            simp only [List.getElem?_toArray] at hc13
            have HO := Lib.hid ho
            have HB := Lib.hid hb
            have HG2 := Lib.hid hg2
            clear ho hb hg2
            go_wp2_with fail
            go_meet
            refine ⟨Ao, co, ?_, ?_, ?_⟩
            · have := hset_at _ g 13 (.slice Ao (z - 20) co) HG2.out
              simpa using this
            · refine own_base (own_same HO.out fun k e => hset_other _ _ _ ?_) BWnn.out.size
              have := HO.out.lt k e
              intro e2
              subst e2
              omega
            · exact (BWnn.out.trans (HB.out.mono BWnn.out.size)).setCell hgz _
        case rest =>
          obtain ⟨Ao, co, hg2, how, hbw⟩ := hcut
          have HG2 := Lib.hid hg2
          have HO := Lib.hid how
          have HBX : Hid (Below w.heap.size w wc) := Lib.hid (B1.out.trans (hbw.mono B1.out.size))
          have HB2 : Hid (wc.heap[w.heap.size]? = some (.cells zeros 26)) := Lib.hid ((hbw.block _ (by omega)).trans HB1.out)
          have SUB2 : Hid (∀ w', Below w.heap.size w w' → Src w' (if c = z then some ad else some (ad.add z)) (l.length - z) (c - z) (bv (l.drop z))) := Lib.hid (fun w' hb => by
            by_cases hcz : c = z
            · rw [if_pos hcz]
              exact ⟨(fun h => by cases h), by omega, by simp [maxLen]; omega, fun a' had j u hu => by rw [List.drop_of_length_le (by omega)] at hu; simp [bv] at hu⟩
            · rw [if_neg hcz]
              rw [show ad.add z = ⟨ad.block, ad.off + z, none⟩ by simp [Addr.add]; omega]
              exact SUB.out z (by omega) (by omega) w' hb)
          have hwg : w.heap.size < g := by omega
          have hbs := hbw.size
          clear hg2 how hbw SUB CLN
          go_wp2_with fail
          apply wp_region_words2 (fun u u' => ∀ k, wc.heap.size ≤ k → k < u.heap.size → u'.heap[k]? = u.heap[k]?) (fun d w' => Below w.heap.size w w' ∧ wc.heap.size ≤ w'.heap.size ∧ (∀ k, w.heap.size < k → k < wc.heap.size → w'.heap[k]? = wc.heap[k]?) ∧ (∃ cs, w'.heap[w.heap.size]? = some (.cells cs 26) ∧ cs.size = 14) ∧ (d 5 = true → w'.heap[w.heap.size]? = some (.cells #[.int .i64 (at0 l 1), .int .i64 (at0 l 4 * 256 + at0 l 5), .int .i64 (at0 l 6 * 256 + at0 l 7), .int .i64 (at0 l 8), .int .i64 (at0 l 9), .int .u8 (at0 l 12), .int .u8 (at0 l 13), .int .u8 (at0 l 14), .int .u8 (at0 l 15), .int .u8 (at0 l 16), .int .u8 (at0 l 17), .int .u8 (at0 l 18), .int .u8 (at0 l 19), .slice Ao (z - 20) co] 26)))
            [isVal (.agg #[.int .i64 (at0 l 1), .int .i64 (at0 l 4 * 256 + at0 l 5), .int .i64 (at0 l 6 * 256 + at0 l 7), .int .i64 (at0 l 8), .int .i64 (at0 l 9), .int .u8 (at0 l 12), .int .u8 (at0 l 13), .int .u8 (at0 l 14), .int .u8 (at0 l 15), .int .u8 (at0 l 16), .int .u8 (at0 l 17), .int .u8 (at0 l 18), .int .u8 (at0 l 19), .slice Ao (z - 20) co]), isVal _, isVal _, isVal _, OwnWord wc.heap.size (l.length - z) (l.drop z), fun _ _ => True, OwnWord wc.heap.size (l.length - z) (l.drop z), isVal _]
            [[], [], [], [1, 2], [3], [0], [4], []] [0, 1, 2, 3, 4, 5, 6, 7] (by kernel_rfl) (by kernel_rfl) ?hFb ?standb ?hIb ?stepsb ?finb
          case hFb => intro v; simp [fillFrom, Act.put]; rfl
          case standb =>
            repeat' (first | exact trivial | (refine And.intro ?_ ?_))
            all_goals first | exact ownWord_stand | exact (fun _ _ _ _ _ _ => trivial) | (intro u w w' h _ _; exact h)
          case hIb => exact ⟨below_dr HBX.out, Nat.le_refl _, fun _ _ _ => rfl, ⟨_, HB2.out, rfl⟩, (fun h => by cases h)⟩
          case stepsb =>
            refine And.intro ?_ ?_
            · intro d v w' hdk hI hdn hd K hK
              simp only [allOf, word, List.getD_cons_zero, List.getD_cons_succ, isVal, and_true, true_and] at hd
              have HK := Lib.hid hK
              clear hK
              rw [if_pos (by rfl)]
              have hgw := (hI.2.2.1 g (by omega) (block_lt HG2.out)).trans HG2.out
              refine wp_load_block 26 (.tmp 7) rfl g rfl #[.int .i64 (at0 l 1), .int .i64 (at0 l 4 * 256 + at0 l 5), .int .i64 (at0 l 6 * 256 + at0 l 7), .int .i64 (at0 l 8), .int .i64 (at0 l 9), .int .u8 (at0 l 12), .int .u8 (at0 l 13), .int .u8 (at0 l 14), .int .u8 (at0 l 15), .int .u8 (at0 l 16), .int .u8 (at0 l 17), .int .u8 (at0 l 18), .int .u8 (at0 l 19), .slice Ao (z - 20) co] 26 (0, 0) hgw _ Try.underlying26 rfl (by kernel_rfl) ?_
              exact HK.out _ _ rfl (by simpa using hI) (fun _ _ _ => rfl)
            refine And.intro ?_ ?_
            · intro d v w' hdk hI hdn hd K hK
              simp only [allOf, word, List.getD_cons_zero, List.getD_cons_succ, isVal, and_true, true_and] at hd
              have HK := Lib.hid hK
              clear hK
              go_simp
              exact HK.out _ _ rfl (by simpa using hI) (fun _ _ _ => rfl)
            refine And.intro ?_ ?_
            · intro d v w' hdk hI hdn hd K hK
              simp only [allOf, word, List.getD_cons_zero, List.getD_cons_succ, isVal, and_true, true_and] at hd
              have HK := Lib.hid hK
              clear hK
              go_simp
              exact HK.out _ _ rfl (by simpa using hI) (fun _ _ _ => rfl)
            refine And.intro ?_ ?_
            · intro d v w' hdk hI hdn hd K hK
              simp only [allOf, word, List.getD_cons_zero, List.getD_cons_succ, isVal, and_true, true_and] at hd
              try simp only [hd] at hK
              have HK := Lib.hid hK
              clear hK
              go_simp
              exact HK.out _ _ rfl (by simpa using hI) (fun _ _ _ => rfl)
            refine And.intro ?_ ?_
            · intro d v w' hdk hI hdn hd K hK
              simp only [allOf, word, List.getD_cons_zero, List.getD_cons_succ, isVal, and_true, true_and] at hd
              simp only [hd] at hK
              have HK := Lib.hid hK
              clear hK
              go_simp
              refine (CLN2.out _ _ w' (SUB2.out w' hI.1)).mono ?_
              rintro e w5 ⟨Ap, cp, rfl, ho, hb⟩
              exact HK.out _ _ ⟨Ap, cp, rfl, own_base ho hI.2.1⟩ ⟨hI.1.trans (hb.mono hI.1.size), Nat.le_trans hI.2.1 hb.size, (fun k h1 h2 => (hb.block k (by omega)).trans (hI.2.2.1 k h1 h2)), (by obtain ⟨cs, g1, g2⟩ := hI.2.2.2.1; exact ⟨cs, (hb.block _ (block_lt g1)).trans g1, g2⟩), (fun h => by have h5 := hI.2.2.2.2 (by simpa using h); exact (hb.block _ (block_lt h5)).trans h5)⟩ (fun k h1 h2 => hb.block k h2)
            refine And.intro ?_ ?_
            · intro d v w' hdk hI hdn hd K hK
              simp only [allOf, word, List.getD_cons_zero, List.getD_cons_succ, isVal, and_true, true_and] at hd
              have HK := Lib.hid hK
              clear hK
              rw [if_pos (by rfl)]
              obtain ⟨cs, g1, g2⟩ := hI.2.2.2.1
              refine wp_store_block 26 (.tmp 2) (.tmp 52) rfl w.heap.size #[.int .i64 (at0 l 1), .int .i64 (at0 l 4 * 256 + at0 l 5), .int .i64 (at0 l 6 * 256 + at0 l 7), .int .i64 (at0 l 8), .int .i64 (at0 l 9), .int .u8 (at0 l 12), .int .u8 (at0 l 13), .int .u8 (at0 l 14), .int .u8 (at0 l 15), .int .u8 (at0 l 16), .int .u8 (at0 l 17), .int .u8 (at0 l 18), .int .u8 (at0 l 19), .slice Ao (z - 20) co] rfl hd cs _ g1 (by kernel_rfl) g2 (by kernel_rfl) ?_
              exact HK.out _ _ trivial ⟨below_setRow hI.1 (Nat.le_refl _) _, by simpa [World.setRow] using hI.2.1, (fun k h1 h2 => (setRow_other _ _ _ _ (by omega)).trans (hI.2.2.1 k h1 h2)), ⟨_, setRow_at _ g1, rfl⟩, fun _ => setRow_at _ g1⟩ (fun k h1 h2 => setRow_other _ _ _ _ (by omega))
            refine And.intro ?_ ?_
            · intro d v w' hdk hI hdn hd K hK
              simp only [allOf, word, List.getD_cons_zero, List.getD_cons_succ, isVal, and_true, true_and] at hd
              obtain ⟨Ap, cp, h4, ho⟩ := hd
              simp only [h4] at hK
              have HK := Lib.hid hK
              clear hK
              go_simp
              exact HK.out _ _ ⟨Ap, cp, rfl, ho⟩ (by simpa using hI) (fun _ _ _ => rfl)
            refine And.intro ?_ ?_
            · intro d v w' hdk hI hdn hd K hK
              simp only [allOf, word, List.getD_cons_zero, List.getD_cons_succ, isVal, and_true, true_and] at hd
              have HK := Lib.hid hK
              clear hK
              go_simp
              exact HK.out _ _ rfl (by simpa using hI) (fun _ _ _ => rfl)
            exact trivial
          intro v wy d hall hI hd
          simp only [allOf, word, List.getD_cons_zero, List.getD_cons_succ, isVal, and_true, true_and] at hd
          obtain ⟨h0, h1, h2, h3, ⟨Ap', cp', h4, -⟩, ⟨Ap, cp, h6, hop⟩, h7⟩ := hd
          simp only [h0, h1, h2, h3, h4, h6, h7]
          clear h0 h1 h2 h3 h4 h6 h7
          have hres := hI.2.2.2.2 (hall 5 (by decide))
          have hcell := cell_of_block hres
          have HOP := Lib.hid hop
          have HI := Lib.hid hI
          have how2 := own_same HO.out (fun k e => (HI.out.2.2.1 k (by have := (HO.out.lt k e).1; omega) (HO.out.lt k e).2))
          have HO2 := Lib.hid how2
          clear hI hall hop how2 hres
          generalize (if c = z then some ad else some (ad.add z)) = X at *
          go_wp2_with fail
          have hy := YES.out wy (z - 20) (l.length - z) Ao Ap co cp (by rw [HOPT.out]; exact LO.out) LP.out (by rw [HOPT.out]; exact own_base HO2.out (by omega)) (own_base HOP.out (by omega)) HI.out.1
          rw [HHV.out, HOPT.out, LO.out] at hy
          exact bodyPost_ret (v := .tuple #[.agg _, .slice Ap (l.length - z) cp, .int .i64 0]) (by simp [results, Try.results11, go_sem, hcell]) rfl hy
  · have hf' : (fault l != 0) = true := by rw [bne_iff_ne]; exact hf
    have NO := Lib.hid (fun w' => @ReadMade.no l w w' _ rfl hf)
    clear hf hs hb
    generalize fault l = f at *
    go_enter Try.func11, Try.ntmps11
    go_wp2_with fail
    refine (HFA.out _ (SS.out _ ((Below.refl _ _).alloc (Nat.le_refl _) _))).mono ?_
    rintro e w1 ⟨rfl, q, rfl⟩
    have hb1 : ((w.alloc (.cells zeros 26)).drewN q).heap[w.heap.size]? = some (.cells zeros 26) := heap_alloc_at w _
    have B1 : Hid (Below w.heap.size w ((w.alloc (.cells zeros 26)).drewN q)) := Lib.hid (below_drewN ((Below.refl _ _).alloc (Nat.le_refl _) _) q)
    unfold zeros at hb1 B1
    generalize (w.alloc (.cells _ 26)).drewN q = w1 at *
    have hb2 := setRow_at zeros hb1
    unfold zeros at hb2
    have B2 := Lib.hid (below_setRow B1.out (Nat.le_refl _) zeros)
    unfold zeros at B2
    clear HFA SS
    have HB1 := Lib.hid hb1
    have HB2 := Lib.hid hb2
    clear hb1 hb2
    go_wp2_with (refine wpList_store_block rfl 26 (.tmp 2) (.tmp 12) rfl w.heap.size zeros rfl rfl zeros _ HB1.out (by kernel_rfl) rfl (by kernel_rfl) ?_)
    unfold zeros
    generalize w1.setRow w.heap.size _ = w2 at *
    go_wp2_with fail
    have hcell := cell_of_block HB2.out
    exact bodyPost_ret (v := .tuple #[.agg (hv noHd none 0), .slice none 0 0, .int .i64 f]) (by simp [results, Try.results11, go_sem, hcell, hv, noHd]) rfl (NO.out _ B2.out)
end Go.Proofs.Ytjembpchgemhnaa.Head
