/- Contracts of crc's Open and of the document's Seal and Open. Conditions: none beyond each lemma's own hypotheses. -/
import Derived.Test.YtgpfjeoomaadoaaFgCrcSums
import Derived.Test.YtgpfjeoomaadoaaFgEqual
import Derived.Test.YtgpfjeoomaadoaaFgWords
import Derived.Deep.RegionHeld3
import Derived.Deep.RegionWith
namespace Go.Proofs.Ytgpfjeoomaadoaa.Crc
open Go.RowKit Go.Proofs.Ytgpfjeoomaadoaa.Fg

theorem src_take {w : World} {A : Option Addr} {c n : Nat} {l : List Int} (h : Src w A l.length c (bv l)) (hn : n ≤ l.length) : Src w A n c (bv (l.take n)) := by
  refine ⟨fun hA => ⟨by have := (h.nil hA).1; omega, (h.nil hA).2⟩, by have := h.cap; omega, h.most, fun ad had q u hu => ?_⟩
  refine h.cells ad had q u ?_
  simp only [bv, List.getElem?_map] at hu ⊢
  have hq : q < n := by
    rcases Nat.lt_or_ge q n with h | h
    · exact h
    · rw [List.getElem?_eq_none (by rw [List.length_take]; omega)] at hu; cases hu
  rw [List.getElem?_take_of_lt hq] at hu
  exact hu
theorem src_drop {w : World} {ad : Addr} {c n : Nat} {l : List Int} (h : Src w (some ad) l.length c (bv l)) (hn : n ≤ l.length) : Src w (some (ad.add n)) (l.length - n) (c - n) (bv (l.drop n)) := by
  refine ⟨(fun h => by cases h), by have := h.cap; omega, by have := h.most; omega, fun a had q u hu => ?_⟩
  injection had with had
  subst had
  rw [Addr.add_add]
  refine h.cells ad rfl (n + q) u ?_
  simp only [bv, List.getElem?_map, List.getElem?_drop] at hu ⊢
  exact hu

/-! Strings of bytes. -/
theorem str_inj {a b : List Int} (ha : Small a) (hb : Small b) (h : strOfNums a = strOfNums b) : a = b := by
  have h2 : a.map (fun n : Int => UInt8.ofNat n.toNat) = b.map fun n => UInt8.ofNat n.toNat := by
    rw [← strOfNums_data, ← strOfNums_data, h]
  clear h
  induction a generalizing b with
  | nil => cases b with
    | nil => rfl
    | cons y ys => simp at h2
  | cons x xs ih => cases b with
    | nil => simp at h2
    | cons y ys =>
      simp only [List.map_cons, List.cons.injEq] at h2
      have hx := ha x (List.mem_cons_self ..)
      have hy := hb y (List.mem_cons_self ..)
      have e := congrArg UInt8.toNat h2.1
      simp only [UInt8.toNat_ofNat'] at e
      have : x = y := by omega
      rw [this, ih (fun z hz => ha z (List.mem_cons_of_mem _ hz)) (fun z hz => hb z (List.mem_cons_of_mem _ hz)) h2.2]
theorem toList_inj {x y : ByteArray} (h : x.toList = y.toList) : x = y := by
  rw [ByteArray.toList_eq, ByteArray.toList_eq] at h
  exact WideShapes.bytes_inj h
theorem str_beq {a b : List Int} (ha : Small a) (hb : Small b) : ((strOfNums a).toList == (strOfNums b).toList) = decide (a = b) := by
  by_cases h : a = b
  · subst h; simp
  · rw [decide_eq_false h, beq_eq_false_iff_ne]
    exact fun e => h (str_inj ha hb (toList_inj e))

/-! Worlds with blocks laid anew. -/
theorem parts_w {w : World} {g n : Nat} (hg : w.heap.size = g) {A : Option Addr} {c : Nat} {l : List Int} (hl : l.length = n) (h : Src w A n c (bv l)) : Parts (w.alloc (.cells #[.slice A n c] 22)) (some ⟨g, 0, none⟩) 1 [l] := by
  subst hg hl; exact parts_one w A c l 22 h
theorem parts_al {w : World} {A : Option Addr} {c : Nat} {ls : List (List Int)} {o : Obj} (h : Parts w A c ls) : Parts (w.alloc o) A c ls := h.same fun _ hk => heap_alloc_old _ _ hk
theorem parts_dr {w : World} {A : Option Addr} {c : Nat} {ls : List (List Int)} (h : Parts w A c ls) : Parts w.drew A c ls := h.same fun _ _ => rfl
theorem src_al {w : World} {A : Option Addr} {n c : Nat} {vs : List Value} {o : Obj} (h : Src w A n c vs) : Src (w.alloc o) A n c vs := h.same fun _ had hne => heap_alloc_old _ _ (h.lt had hne)
theorem src_dr {w : World} {A : Option Addr} {n c : Nat} {vs : List Value} (h : Src w A n c vs) : Src w.drew A n c vs := h.same fun _ _ _ => rfl
theorem tail_src {w : World} {g : Nat} (hg : w.heap.size = g) (s : BitVec 32) : Src (w.alloc (.cells (bv (tailB s)).toArray 5)) (some ⟨g, 0, none⟩) 4 4 (bv (tailB s)) := src_at hg (tailB s) (0, 0) (by simp [tailB])
theorem below_al {w W : World} {o : Obj} (h : Below W.heap.size W w) : Below W.heap.size W (w.alloc o) := h.alloc h.size o
theorem below_dr {w W : World} (h : Below W.heap.size W w) : Below W.heap.size W w.drew := below_drewN h 1

/-- Whether bytes are a seal, and of what. -/
def opens (l : List Int) : Bool := decide (4 ≤ l.length ∧ tailB (sumOf (l.take (l.length - 4))) = l.drop (l.length - 4))
def opened (l : List Int) : List Int := if opens l then l.take (l.length - 4) else []
/-- What an Open leaves. -/
def OpenMade (l : List Int) (w : World) (e : Ending) (w' : World) : Prop :=
  ∃ A c, e = .returned (.tuple #[.slice A (opened l).length c, .bool (opens l)]) ∧ w'.ownsRow w.heap.size 5 1 (.slice A (opened l).length c) (opened l).length (bv (opened l)) ∧ Below w.heap.size w w'
theorem OpenMade.no {l : List Int} {w w' : World} (h : opens l = false) (hb : Below w.heap.size w w') : OpenMade l w (.returned (.tuple #[.slice none 0 0, .bool false])) w' := by
  have e : opened l = [] := by simp [opened, h]
  refine ⟨none, 0, ?_, ?_, hb⟩
  · rw [e, h]; rfl
  · rw [e]; exact World.ownsRow_nil _ _ _ _

theorem OpenMade.yes {l : List Int} {w w' : World} {n : Nat} {A : Option Addr} {c : Nat} (h : opens l = true) (hln : l.length = n + 4) (ho : w'.ownsRow w.heap.size 5 1 (.slice A n c) n (bv (l.take n))) (hb : Below w.heap.size w w') :
    OpenMade l w (.returned (.tuple #[.slice A n c, .bool true])) w' := by
  have e : opened l = l.take n := by
    have e1 : l.length - 4 = n := by omega
    simp [opened, h, e1]
  have e2 : (l.take n).length = n := by rw [List.length_take]; omega
  refine ⟨A, c, ?_, ?_, hb⟩
  · rw [e, h, e2]
  · rw [e, e2]; exact ho

set_option linter.unusedSimpArgs false in
set_option maxRecDepth 100000 in
set_option maxHeartbeats 1000000 in
theorem open_any (l : List Int) (hb : Small l) (hn : l.length ≤ 100000) (A : Option Addr) (c : Nat) (w : World) (hs : Src w A l.length c (bv l)) :
    Calls Try.prog 10 #[.slice A l.length c] w (OpenMade l w) := by
  by_cases h4 : l.length < 4
  · have HO : Hid (opens l = false) := Lib.hid (decide_eq_false (fun h => by omega))
    have hlt : (l.length : Int) - 4 < 0 := by omega
    clear hs hb
    go_enter Try.func10, Try.ntmps10
    go_wp2_with fail
    go_quiet (fail)
    go_wp2_with fail
    exact bodyPost_ret (v := .tuple #[.slice none 0 0, .bool false]) (by simp [results, Try.results10, go_sem]) rfl (OpenMade.no HO.out (below_drewN (Below.refl _ _) _))
  · cases A with
    | none => have := (hs.nil rfl).1; omega
    | some ad =>
      obtain ⟨n, hln⟩ : ∃ n, l.length = n + 4 := ⟨l.length - 4, by omega⟩
      have hcap := hs.cap
      have S1 : Src w (some ad) n c (bv (l.take n)) := src_take hs (by omega)
      have S2 : Src w (some (ad.add n)) 4 (c - n) (bv (l.drop n)) := by have h := src_drop hs (by omega : n ≤ l.length); rw [hln] at h; simpa using h
      have hb1 : Small (l.take n) := fun x hx => hb x (List.mem_of_mem_take hx)
      have l1 : (l.take n).length = n := by rw [List.length_take]; omega
      have l2 : (l.drop n).length = 4 := by rw [List.length_drop]; omega
      have HS1 := Lib.hid S1
      have HS2 := Lib.hid S2
      have HB1 := Lib.hid hb1
      have L1 := Lib.hid l1
      have L2 := Lib.hid l2
      have HLN := Lib.hid hln
      have hn1 : n ≤ c := by omega
      have hn2 : n + 4 ≤ c := by omega
      have hn3 : n ≤ 100000 := by omega
      have hcm := hs.most
      have hcn : ¬ c = n := by omega
      have i0 : (0 : Int) ≤ (n : Int) := by omega
      have i1 : (n : Int) ≤ (n : Int) + 4 := by omega
      have i2 : (n : Int) ≤ (c : Int) := by omega
      rw [hln]
      clear hs hb S1 S2 hb1 l1 l2 hln h4 hcap
      go_enter Try.func10, Try.ntmps10
      have OF : Hid (∀ (A : Option Addr) (c : Nat) (w : World), Parts w A c [l.take n] → Calls Try.prog 8 #[.slice A 1 c] w fun e w' => e = .returned (.int .u32 (sumOf (l.take n)).toNat) ∧ w' = w) := Lib.hid (fun A c w h => of_one (l.take n) HB1.out (by rw [L1.out]; omega) A c w h)
      have T1 : Hid (∀ w', Below w.heap.size w w' → Src w' (some ad) n c (bv (l.take n))) := Lib.hid (fun w' hbw => HS1.out.same fun a had hne => hbw.block _ (HS1.out.lt had hne))
      have EQ : Hid (∀ (A' : Option Addr) (c' : Nat) (w' : World), Below w.heap.size w w' → Src w' A' 4 c' (bv (tailB (sumOf (l.take n)))) → Calls Try.prog 17 #[.slice A' 4 c', .slice (some (ad.add n)) 4 (c - n)] w' fun e w2 => e = .returned (.bool (decide (tailB (sumOf (l.take n)) = l.drop n))) ∧ Below w'.heap.size w' w2) := Lib.hid (fun A' c' w' hbw ht => by
        have h1 : Src w' (some (ad.add n)) (l.drop n).length (c - n) (bv (l.drop n)) := by rw [L2.out]; exact HS2.out.same fun a had hne => hbw.block _ (HS2.out.lt had hne)
        have h := equal_any (tailB (sumOf (l.take n))) (l.drop n) (by simp [tailB]) A' (some (ad.add n)) c' (c - n) w' ht h1
        rw [L2.out] at h
        exact h)
      have HOP : Hid (opens l = decide (tailB (sumOf (l.take n)) = l.drop n)) := Lib.hid (by
        have e : l.length - 4 = n := by have := HLN.out; omega
        have h4 : 4 ≤ l.length := by have := HLN.out; omega
        simp only [opens, e, h4, true_and])
      go_wp2_with fail
      go_region_held3 (fun w' => w.heap.size ≤ w'.heap.size) (first | (simp; done) | (simp; omega) | (have h := HB3.out.size; simp at h; omega)) ((first
        | (go_at_call 8; refine (OF.out _ _ _ ?pp).mono ?_; (case pp => (repeat (first | (refine parts_w ?_ L1.out (T1.out _ ?_); simp; (repeat (first | exact Below.refl _ _ | apply below_al | apply below_dr)); done) | apply parts_al | apply parts_dr)); done); rintro e w1 ⟨rfl, rfl⟩)
        | (go_at_call 18; refine (tail_any _ _).mono ?_; rintro e w2 ⟨rfl, rfl⟩)
        | (go_at_call 17; refine (EQ.out _ _ _ ?pb ?ps).mono ?_; (case pb => (repeat (first | exact Below.refl _ _ | apply below_al | apply below_dr)); done); (case ps => (repeat (first | (refine tail_src ?_ _; simp; done) | apply src_al | apply src_dr)); done); rintro e w3 ⟨rfl, hb3⟩; have HB3 := Lib.hid hb3; clear hb3)))
      have b3 : Below w.heap.size w w3 := by
        refine Below.trans ?_ (HB3.out.mono (by simp; omega))
        repeat (first | exact Below.refl _ _ | apply below_al | apply below_dr)
      have HB4 := Lib.hid b3
      clear b3 HB3
      clear EQ
      generalize decide (tailB (sumOf (l.take n)) = l.drop n) = bt at HOP ⊢
      have hneg : decide ((n : Int) < 0) = false := decide_eq_false (by omega)
      cases bt
      rotate_left
      · have HOT : Hid (opens l = true) := Lib.hid HOP.out
        simp only [hneg, Bool.not_true, Bool.not_false, Bool.false_or, Bool.or_false, Bool.or_true]
        clear hneg
        go_wp2_with fail
        have h1 : Src w3 (some ad) (l.take n).length c (bv (l.take n)) := by rw [L1.out]; exact T1.out w3 HB4.out
        have hc := clone_any (l.take n) (some ad) c w3 h1 (by rw [L1.out]; omega)
        rw [L1.out] at hc
        refine hc.mono ?_
        rintro e w4 ⟨v, rfl, hown, hbel, -⟩
        rw [L1.out] at hown
        have HO := Lib.hid hown
        have HBL := Lib.hid hbel
        obtain ⟨A4, c4, rfl, -⟩ := own_form hown
        clear hown hbel hc h1
        go_wp2_with fail
        exact bodyPost_ret (v := .tuple #[.slice A4 n c4, .bool true]) (by simp [results, Try.results10, go_sem]) rfl (OpenMade.yes HOT.out HLN.out (own_base HO.out HB4.out.size) (HB4.out.trans (HBL.out.mono HB4.out.size)))
      · have HOT : Hid (opens l = false) := Lib.hid HOP.out
        simp only [hneg, Bool.not_true, Bool.not_false, Bool.false_or, Bool.or_false, Bool.or_true]
        clear hneg
        go_wp2_with fail
        exact bodyPost_ret (v := .tuple #[.slice none 0 0, .bool false]) (by simp [results, Try.results10, go_sem]) rfl (OpenMade.no HOT.out HB4.out)

set_option maxRecDepth 100000 in
theorem refseal_any (l : List Int) (hb : Small l) (hn : l.length ≤ 100000) (A : Option Addr) (c : Nat) (w : World) (hs : Src w A l.length c (bv l)) :
    Calls Try.prog 13 #[.slice A l.length c] w (SealMade l w) := by
  have hR := refof_any l hb (by omega) A c w hs
  have HT : Hid (bv (tailB (sumOf l)) = [.int .u8 (((sumOf l).toNat : Int) / (16777216 : Int)), .int .u8 (((sumOf l).toNat : Int) / (65536 : Int) % (256 : Int)), .int .u8 (((sumOf l).toNat : Int) / (256 : Int) % (256 : Int)), .int .u8 (((sumOf l).toNat : Int) % (256 : Int))]) := Lib.hid rfl
  have hlt := (sumOf l).isLt
  have HS := Lib.hid hs
  have HR := Lib.hid hR
  have HSE : Hid (bv (sealed l) = bv l ++ bv (tailB (sumOf l))) := Lib.hid (bv_append _ _)
  clear hs hb hR
  generalize sumOf l = s at *
  go_enter Try.func13, Try.ntmps13
  go_wp2_with fail
  refine HR.out.mono ?_
  rintro e w1 ⟨rfl, rfl⟩
  go_wp2_with (at_builtin; refine wpList_append_any rfl (.tmp 7) (.tmp 8) 22 rfl w1.heap.size 5 (.int .u8 0) 1 1 Try.underlying22 info_u8 rfl (by decide) (by decide) (.slice (some ⟨w1.heap.size, 0, none⟩) 0 0) 0 [] rfl ?a1 A l.length c (bv l) rfl ?a2 ?a3 (bv_one l) ?a5 ?a6 ?a7)
  case a1 => exact World.ownsRow_made w1 #[] 0 (Nat.le_refl _) (Nat.zero_le _) rfl
  case a2 => exact HS.out.same fun ad had hne => heap_alloc_old _ _ (HS.out.lt had hne)
  case a3 => simp [bv]
  case a5 => omega
  case a6 => simp
  intro v2 w2 hown2 hgr2 _ _
  have b2 : Below w1.heap.size w1 w2 := ((Below.refl _ _).alloc (Nat.le_refl _) (.cells #[] 5)).grown hgr2 (by simp) (by simp [Value.ownBlock])
  have HB2 := Lib.hid b2
  have HO2 := Lib.hid hown2
  obtain ⟨A2, c2, rfl, -⟩ := own_form hown2
  clear b2 hown2 hgr2
  have TS : Hid (Src (w2.alloc (.cells #[.int .u8 ((s.toNat : Int) / (16777216 : Int)), .int .u8 ((s.toNat : Int) / (65536 : Int) % (256 : Int)), .int .u8 ((s.toNat : Int) / (256 : Int) % (256 : Int)), .int .u8 ((s.toNat : Int) % (256 : Int))] 5)) (some ⟨w2.heap.size, 0, none⟩) 4 4 (bv (tailB s))) := Lib.hid (tail_src rfl s)
  go_wp2_with (at_builtin; refine wpList_append_any rfl (.tmp 10) (.tmp 25) 22 rfl w1.heap.size 5 (.int .u8 0) 1 1 Try.underlying22 info_u8 rfl (by decide) (by decide) (.slice A2 l.length c2) l.length (bv l) rfl ?b1 (some ⟨w2.heap.size, 0, none⟩) 4 4 (bv (tailB s)) rfl TS.out rfl (bv_one _) ?b5 ?b6 ?b7)
  case b1 => exact HO2.out.alloc _
  case b5 => omega
  case b6 => have := HB2.out.size; simp; omega
  intro v3 w3 hown3 hgr3 _ _
  have hs2 := HB2.out.size
  have b3 : Below w1.heap.size w1 w3 := (HB2.out.alloc hs2 (.cells #[.int .u8 ((s.toNat : Int) / (16777216 : Int)), .int .u8 ((s.toNat : Int) / (65536 : Int) % (256 : Int)), .int .u8 ((s.toNat : Int) / (256 : Int) % (256 : Int)), .int .u8 ((s.toNat : Int) % (256 : Int))] 5)).grown hgr3 (by simp; omega) (fun k hk => (HO2.out.lt k hk).1)
  rw [← HSE.out] at hown3
  have HB3 := Lib.hid b3
  have HO3 := Lib.hid hown3
  obtain ⟨A3, c3, rfl, -⟩ := own_form hown3
  clear b3 hown3 hgr3
  go_wp2_with fail
  go_ret
  exact ⟨A3, c3, rfl, HO3.out, HB3.out⟩

theorem opens_sealed {l : List Int} {n : Nat} (hln : l.length = n + 4) : opens l = decide (sealed (l.take n) = l) := by
  have e : l.length - 4 = n := by omega
  have h4 : 4 ≤ l.length := by omega
  simp only [opens, e, h4, true_and]
  have k : (tailB (sumOf (l.take n)) = l.drop n) ↔ sealed (l.take n) = l := by
    rw [sealed]
    constructor
    · intro h; rw [h, List.take_append_drop]
    · intro h
      have h2 := congrArg (List.drop n) h
      rw [List.drop_append_of_le_length (by rw [List.length_take]; omega)] at h2
      have : (l.take n).drop n = [] := List.drop_eq_nil_of_le (by rw [List.length_take]; omega)
      rw [this, List.nil_append] at h2
      exact h2
  by_cases h : tailB (sumOf (l.take n)) = l.drop n
  · rw [decide_eq_true h, decide_eq_true (k.1 h)]
  · rw [decide_eq_false h, decide_eq_false (fun h' => h (k.2 h'))]

/-- A row that holds a seal. -/
def SealWord (l : List Int) (n : Nat) (u : Value) (w : World) : Prop := ∃ A c, u = .slice A (n + 4) c ∧ Src w A (n + 4) c (bv (sealed l))
theorem sealWord_stand {l : List Int} {n : Nat} {I : World → Prop} : ∀ (u : Value) (w w' : World), SealWord l n u w → I w → Below w.heap.size w w' → SealWord l n u w' := by
  rintro u w w' ⟨A, c, rfl, h⟩ _ hb
  exact ⟨A, c, rfl, h.same fun ad had hne => hb.block _ (h.lt had hne)⟩
set_option linter.unusedSimpArgs false in
set_option maxRecDepth 100000 in
set_option maxHeartbeats 1000000 in
theorem refopen_any (l : List Int) (hb : Small l) (hn : l.length ≤ 100000) (A : Option Addr) (c : Nat) (w : World) (hs : Src w A l.length c (bv l)) :
    Calls Try.prog 11 #[.slice A l.length c] w (OpenMade l w) := by
  by_cases h4 : l.length < 4
  · have HO : Hid (opens l = false) := Lib.hid (decide_eq_false (fun h => by omega))
    have hlt : (l.length : Int) < 4 := by omega
    clear hs hb h4
    go_enter Try.func11, Try.ntmps11
    go_wp2_with fail
    go_quiet (fail)
    go_wp2_with fail
    exact bodyPost_ret (v := .tuple #[.slice none 0 0, .bool false]) (by simp [results, Try.results11, go_sem]) rfl (OpenMade.no HO.out (below_drewN (Below.refl _ _) _))
  · cases A with
    | none => have := (hs.nil rfl).1; omega
    | some ad =>
      obtain ⟨n, hln⟩ : ∃ n, l.length = n + 4 := ⟨l.length - 4, by omega⟩
      have hcap := hs.cap
      have S1 : Src w (some ad) n c (bv (l.take n)) := src_take hs (by omega)
      have hb1 : Small (l.take n) := fun x hx => hb x (List.mem_of_mem_take hx)
      have l1 : (l.take n).length = n := by rw [List.length_take]; omega
      have HS := Lib.hid hs
      have HS1 := Lib.hid S1
      have L1 := Lib.hid l1
      have HLN := Lib.hid hln
      have hn1 : n ≤ c := by omega
      have hn2 : n + 4 ≤ c := by omega
      have hn3 : n ≤ 100000 := by omega
      have hcm := hs.most
      have i0 : (0 : Int) ≤ (n : Int) := by omega
      have i1 : (n : Int) ≤ (n : Int) + 4 := by omega
      have i2 : (n : Int) ≤ (c : Int) := by omega
      have hge : ¬ ((n : Int) + 4 < 4) := by omega
      have SMS : Hid (Small (l.take n) ∧ Small l) := Lib.hid ⟨hb1, hb⟩
      have SE : Hid (∀ w', Src w' (some ad) n c (bv (l.take n)) → Calls Try.prog 13 #[.slice (some ad) n c] w' fun e w2 => ∃ A c, e = .returned (.slice A (n + 4) c) ∧ Below w'.heap.size w' w2 ∧ Src w2 A (n + 4) c (bv (sealed (l.take n)))) := Lib.hid (fun w' h => by
        have h1 : Src w' (some ad) (l.take n).length c (bv (l.take n)) := by rw [l1]; exact h
        have hc := refseal_any (l.take n) hb1 (by omega) (some ad) c w' h1
        rw [l1] at hc
        refine hc.mono ?_
        rintro e w2 ⟨A, c, rfl, ho, hb⟩
        rw [l1] at ho
        refine ⟨A, c, by rw [l1], hb, ?_⟩
        have hs2 := Src.of_own ho
        exact hs2)
      have SSTR : Hid (∀ (A : Option Addr) (c : Nat) (w' : World), Src w' A (n + 4) c (bv (sealed (l.take n))) → (convert 22 9 (.slice A (n + 4) c)).run Try.prog w' = .ok (.string (strOfNums (sealed (l.take n)))) w') := Lib.hid (fun A c w' hs2 => by
        have e4 : (sealed (l.take n)).length = n + 4 := by rw [sealed_length, l1]
        rw [← e4] at hs2 ⊢
        exact str_run _ _ _ _ hs2)
      have HOP := Lib.hid (opens_sealed hln)
      have STR := Lib.hid (fun w' (h : Src w' (some ad) l.length c (bv l)) => str_run l (some ad) c w' h)
      rw [hln]
      rw [hln] at STR
      clear hs hb S1 hb1 l1 hln h4 hcap
      go_enter Try.func11, Try.ntmps11
      have CV : Hid (∀ w', Below w.heap.size w w' → (convert 22 9 (.slice (some ad) (n + 4) c)).run Try.prog w' = .ok (.string (strOfNums l)) w') := Lib.hid (fun w' hbw => STR.out w' (by have h := HS.out.same (w' := w') fun a had hne => hbw.block _ (HS.out.lt had hne); rw [HLN.out] at h; exact h))
      have hwr : IntKind.i64.wrap (n : Int) = (n : Int) := by rw [IntKind.wrap_i64]; omega
      have hwr2 : ((n : Int) + 9223372036854775808) % 18446744073709551616 - 9223372036854775808 = (n : Int) := by omega
      have T1 : Hid (∀ w', Below w.heap.size w w' → Src w' (some ad) n c (bv (l.take n))) := Lib.hid (fun w' hbw => HS1.out.same fun a had hne => hbw.block _ (HS1.out.lt had hne))
      go_wp2_with fail
      apply wp_region_words (fun w w' => Below w.heap.size w w') (fun w' => Below w.heap.size w w')
        [isVal _, isVal _, isVal _, isVal _, isVal _, isVal _, isVal _, isVal _, isVal _, SealWord (l.take n) n, isVal (.string (strOfNums (sealed (l.take n)))), isVal _, isVal (.string (strOfNums l)), isVal _, isVal _]
        [[], [0], [1], [2], [3], [3], [3, 5], [3, 6], [3, 4, 7], [3, 8], [3, 9], [3], [3, 11], [3, 10, 12], [3, 13]] [0, 1, 2, 3, 4, 5, 6, 7, 8, 9, 10, 11, 12, 13, 14] (by kernel_rfl) (by kernel_rfl) ?hF ?stand ?hI ?steps ?fin
      case hF =>
        intro v
        simp [fillFrom, Act.put]
        rfl
      case stand =>
        repeat' (first | exact trivial | (refine And.intro ?_ ?_))
        all_goals first | exact sealWord_stand | (intro u w w' h _ _; exact h)
      case hI => exact below_dr (Below.refl _ _)
      case steps =>
        refine And.intro ?_ ?_
        · intro v w' hI hd K hK
          simp only [allOf, word, List.getD_cons_zero, List.getD_cons_succ, isVal, and_true, true_and] at hd
          try simp only [hd] at hK
          have HK := Lib.hid hK
          clear hK
          go_simp
          exact HK.out _ _ rfl hI (Below.refl _ _)
        refine And.intro ?_ ?_
        · intro v w' hI hd K hK
          simp only [allOf, word, List.getD_cons_zero, List.getD_cons_succ, isVal, and_true, true_and] at hd
          try simp only [hd] at hK
          have HK := Lib.hid hK
          clear hK
          go_simp
          exact HK.out _ _ rfl hI (Below.refl _ _)
        refine And.intro ?_ ?_
        · intro v w' hI hd K hK
          simp only [allOf, word, List.getD_cons_zero, List.getD_cons_succ, isVal, and_true, true_and] at hd
          try simp only [hd] at hK
          have HK := Lib.hid hK
          clear hK
          go_simp
          exact HK.out _ _ rfl hI (Below.refl _ _)
        refine And.intro ?_ ?_
        · intro v w' hI hd K hK
          simp only [allOf, word, List.getD_cons_zero, List.getD_cons_succ, isVal, and_true, true_and] at hd
          try simp only [hd] at hK
          have HK := Lib.hid hK
          clear hK
          go_simp
          exact HK.out _ _ rfl hI (Below.refl _ _)
        refine And.intro ?_ ?_
        · intro v w' hI hd K hK
          simp only [allOf, word, List.getD_cons_zero, List.getD_cons_succ, isVal, and_true, true_and] at hd
          try simp only [hd] at hK
          have HK := Lib.hid hK
          clear hK
          go_simp
          exact HK.out _ _ rfl hI (Below.refl _ _)
        refine And.intro ?_ ?_
        · intro v w' hI hd K hK
          simp only [allOf, word, List.getD_cons_zero, List.getD_cons_succ, isVal, and_true, true_and] at hd
          try simp only [hd] at hK
          have HK := Lib.hid hK
          clear hK
          go_simp
          exact HK.out _ _ rfl hI (Below.refl _ _)
        refine And.intro ?_ ?_
        · intro v w' hI hd K hK
          simp only [allOf, word, List.getD_cons_zero, List.getD_cons_succ, isVal, and_true, true_and] at hd
          try simp only [hd] at hK
          have HK := Lib.hid hK
          clear hK
          go_simp
          exact HK.out _ _ rfl hI (Below.refl _ _)
        refine And.intro ?_ ?_
        · intro v w' hI hd K hK
          simp only [allOf, word, List.getD_cons_zero, List.getD_cons_succ, isVal, and_true, true_and] at hd
          try simp only [hd] at hK
          have HK := Lib.hid hK
          clear hK
          go_simp
          exact HK.out _ _ rfl hI (Below.refl _ _)
        refine And.intro ?_ ?_
        · intro v w' hI hd K hK
          simp only [allOf, word, List.getD_cons_zero, List.getD_cons_succ, isVal, and_true, true_and] at hd
          try simp only [hd] at hK
          have HK := Lib.hid hK
          clear hK
          go_simp
          exact HK.out _ _ rfl hI (Below.refl _ _)
        refine And.intro ?_ ?_
        · intro v w' hI hd K hK
          simp only [allOf, word, List.getD_cons_zero, List.getD_cons_succ, isVal, and_true, true_and] at hd
          simp only [hd] at hK
          have HK := Lib.hid hK
          clear hK
          go_simp
          refine (SE.out _ (T1.out _ hI)).mono ?_
          rintro e w3 ⟨A3, c3, rfl, hb3, hs3⟩
          exact HK.out _ _ ⟨A3, c3, rfl, hs3⟩ (hI.trans (hb3.mono hI.size)) hb3
        refine And.intro ?_ ?_
        · intro v w' hI hd K hK
          simp only [allOf, word, List.getD_cons_zero, List.getD_cons_succ, isVal, and_true, true_and] at hd
          obtain ⟨hd3, A3, c3, hd9, hs3⟩ := hd
          simp only [hd3, hd9] at hK
          have HK := Lib.hid hK
          clear hK
          have tv := SSTR.out A3 c3 w' hs3
          clear hs3
          go_simp
          exact HK.out _ _ rfl hI (Below.refl _ _)
        refine And.intro ?_ ?_
        · intro v w' hI hd K hK
          simp only [allOf, word, List.getD_cons_zero, List.getD_cons_succ, isVal, and_true, true_and] at hd
          try simp only [hd] at hK
          have HK := Lib.hid hK
          clear hK
          go_simp
          exact HK.out _ _ rfl hI (Below.refl _ _)
        refine And.intro ?_ ?_
        · intro v w' hI hd K hK
          simp only [allOf, word, List.getD_cons_zero, List.getD_cons_succ, isVal, and_true, true_and] at hd
          simp only [hd] at hK
          have HK := Lib.hid hK
          clear hK
          have tv := CV.out w' hI
          go_simp
          exact HK.out _ _ rfl hI (Below.refl _ _)
        refine And.intro ?_ ?_
        · intro v w' hI hd K hK
          simp only [allOf, word, List.getD_cons_zero, List.getD_cons_succ, isVal, and_true, true_and] at hd
          try simp only [hd] at hK
          have HK := Lib.hid hK
          clear hK
          go_simp
          exact HK.out _ _ rfl hI (Below.refl _ _)
        refine And.intro ?_ ?_
        · intro v w' hI hd K hK
          simp only [allOf, word, List.getD_cons_zero, List.getD_cons_succ, isVal, and_true, true_and] at hd
          try simp only [hd] at hK
          have HK := Lib.hid hK
          clear hK
          go_simp
          exact HK.out _ _ rfl hI (Below.refl _ _)
        exact trivial
      intro v w3 hI hd
      simp only [allOf, word, List.getD_cons_zero, List.getD_cons_succ, isVal, and_true, true_and] at hd
      obtain ⟨h0, h1, h2, h3, h4, h5, h6, h7, h8, ⟨A3, c3, h9, hs9⟩, h10, h11, h12, h13, h14⟩ := hd
      simp only [h0, h1, h2, h3, h4, h5, h6, h7, h8, h9, h10, h11, h12, h13, h14]
      have HB3 := Lib.hid hI
      clear h0 h1 h2 h3 h4 h5 h6 h7 h8 h9 h10 h11 h12 h13 h14 hI hs9
      have hss := SMS.out
      rw [str_beq (sealed_small hss.1) hss.2]
      clear hss STR CV SE SSTR
      generalize decide (sealed (l.take n) = l) = bt at HOP ⊢
      have hneg : decide ((n : Int) + 4 < 4) = false := decide_eq_false (by omega)
      cases bt
      rotate_left
      · have HOT : Hid (opens l = true) := Lib.hid HOP.out
        simp only [hneg, Bool.not_true, Bool.not_false, Bool.false_or, Bool.or_false, Bool.or_true]
        clear hneg
        go_wp2_with (at_builtin; refine wpList_append_any rfl (.tmp 19) (.tmp 24) 22 rfl w.heap.size 5 (.int .u8 0) 1 1 Try.underlying22 info_u8 rfl (by decide) (by decide) (.slice (some ⟨w3.heap.size, 0, none⟩) 0 0) 0 [] rfl ?a1 (some ad) n c (bv (l.take n)) rfl ?a2 ?a3 (bv_one _) ?a5 ?a6 ?a7)
        case a1 => exact World.ownsRow_made w3 #[] 0 HB3.out.size (Nat.zero_le _) rfl
        case a2 => exact T1.out _ (HB3.out.alloc HB3.out.size _)
        case a3 => rw [bv_length, L1.out, Nat.mul_one]
        case a5 => omega
        case a6 => have := HB3.out.size; simp; omega
        intro v4 w4 hown4 hgr4 _ _
        have b4 : Below w.heap.size w w4 := (HB3.out.alloc HB3.out.size (.cells #[] 5)).grown hgr4 (by have := HB3.out.size; simp; omega) (by have := HB3.out.size; simp [Value.ownBlock]; omega)
        have HO4 := Lib.hid hown4
        have HB4 := Lib.hid b4
        obtain ⟨A4, c4, rfl, -⟩ := own_form hown4
        clear hown4 hgr4 b4
        go_wp2_with fail
        exact bodyPost_ret (v := .tuple #[.slice A4 n c4, .bool true]) (by simp [results, Try.results11, go_sem]) rfl (OpenMade.yes HOT.out HLN.out HO4.out HB4.out)
      · have HOT : Hid (opens l = false) := Lib.hid HOP.out
        simp only [hneg, Bool.not_true, Bool.not_false, Bool.false_or, Bool.or_false, Bool.or_true]
        clear hneg
        go_wp2_with fail
        exact bodyPost_ret (v := .tuple #[.slice none 0 0, .bool false]) (by simp [results, Try.results11, go_sem]) rfl (OpenMade.no HOT.out HB3.out)
end Go.Proofs.Ytgpfjeoomaadoaa.Crc
