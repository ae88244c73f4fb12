/- Contracts of crc's Open and of the document's Seal and Open. Conditions: none beyond each lemma's own hypotheses. -/
import Derived.Test.YtogkibikghbghaaFgCrcSeal0
import Derived.Test.YtogkibikghbghaaFgEqual
import Derived.Test.YtogkibikghbghaaFgWords
import Derived.Deep.RegionHeld3
import Derived.Deep.RegionWith
namespace Go.Proofs.Ytogkibikghbghaa.Crc
open Go.RowKit Go.Proofs.Ytogkibikghbghaa.Fg

theorem src_take {w : World} {A : Option Addr} {c n : Nat} {l : List Int} (h : Src w A l.length c (bv l)) (hn : n ≤ l.length) : Src w A n c (bv (l.take n)) := by
  refine ⟨fun hA => ⟨by have := (h.nil hA).1; omega, (h.nil hA).2⟩, by have := h.cap; omega, h.most, fun ad had q u hu => ?_⟩
  refine h.cells ad had q u ?_
  simp only [bv, List.getElem?_map] at hu ⊢
  have hq : q < n := by
    rcases Nat.lt_or_ge q n with h | h
    · exact h
    · rw [List.getElem?_eq_none (by rw [List.length_take]; omega)] at hu; cases hu
  rw [List.getElem?_take_of_lt hq] at hu
  exact hu
theorem src_drop {w : World} {ad : Addr} {c n : Nat} {l : List Int} (h : Src w (some ad) l.length c (bv l)) (hn : n ≤ l.length) : Src w (some (ad.add n)) (l.length - n) (c - n) (bv (l.drop n)) := by
  refine ⟨(fun h => by cases h), by have := h.cap; omega, by have := h.most; omega, fun a had q u hu => ?_⟩
  injection had with had
  subst had
  rw [Addr.add_add]
  refine h.cells ad rfl (n + q) u ?_
  simp only [bv, List.getElem?_map, List.getElem?_drop] at hu ⊢
  exact hu

/-! Strings of bytes. -/
theorem str_inj {a b : List Int} (ha : Small a) (hb : Small b) (h : strOfNums a = strOfNums b) : a = b := by
  have h2 : a.map (fun n : Int => UInt8.ofNat n.toNat) = b.map fun n => UInt8.ofNat n.toNat := by
    rw [← strOfNums_data, ← strOfNums_data, h]
  clear h
  induction a generalizing b with
  | nil => cases b with
    | nil => rfl
    | cons y ys => simp at h2
  | cons x xs ih => cases b with
    | nil => simp at h2
    | cons y ys =>
      simp only [List.map_cons, List.cons.injEq] at h2
      have hx := ha x (List.mem_cons_self ..)
      have hy := hb y (List.mem_cons_self ..)
      have e := congrArg UInt8.toNat h2.1
      simp only [UInt8.toNat_ofNat'] at e
      have : x = y := by omega
      rw [this, ih (fun z hz => ha z (List.mem_cons_of_mem _ hz)) (fun z hz => hb z (List.mem_cons_of_mem _ hz)) h2.2]
theorem toList_inj {x y : ByteArray} (h : x.toList = y.toList) : x = y := by
  rw [ByteArray.toList_eq, ByteArray.toList_eq] at h
  exact WideShapes.bytes_inj h
theorem str_beq {a b : List Int} (ha : Small a) (hb : Small b) : ((strOfNums a).toList == (strOfNums b).toList) = decide (a = b) := by
  by_cases h : a = b
  · subst h; simp
  · rw [decide_eq_false h, beq_eq_false_iff_ne]
    exact fun e => h (str_inj ha hb (toList_inj e))

/-! Worlds with blocks laid anew. -/
theorem parts_w {w : World} {g n : Nat} (hg : w.heap.size = g) {A : Option Addr} {c : Nat} {l : List Int} (hl : l.length = n) (h : Src w A n c (bv l)) : Parts (w.alloc (.cells #[.slice A n c] 37)) (some ⟨g, 0, none⟩) 1 [l] := by
  subst hg hl; exact parts_one w A c l 37 h
theorem parts_al {w : World} {A : Option Addr} {c : Nat} {ls : List (List Int)} {o : Obj} (h : Parts w A c ls) : Parts (w.alloc o) A c ls := h.same fun _ hk => heap_alloc_old _ _ hk
theorem parts_dr {w : World} {A : Option Addr} {c : Nat} {ls : List (List Int)} (h : Parts w A c ls) : Parts w.drew A c ls := h.same fun _ _ => rfl
theorem src_al {w : World} {A : Option Addr} {n c : Nat} {vs : List Value} {o : Obj} (h : Src w A n c vs) : Src (w.alloc o) A n c vs := h.same fun _ had hne => heap_alloc_old _ _ (h.lt had hne)
theorem src_dr {w : World} {A : Option Addr} {n c : Nat} {vs : List Value} (h : Src w A n c vs) : Src w.drew A n c vs := h.same fun _ _ _ => rfl
theorem tail_src {w : World} {g : Nat} (hg : w.heap.size = g) (s : BitVec 32) : Src (w.alloc (.cells (bv (tailB s)).toArray 5)) (some ⟨g, 0, none⟩) 4 4 (bv (tailB s)) := src_at hg (tailB s) (0, 0) (by simp [tailB])
theorem below_al {w W : World} {o : Obj} (h : Below W.heap.size W w) : Below W.heap.size W (w.alloc o) := h.alloc h.size o
theorem below_dr {w W : World} (h : Below W.heap.size W w) : Below W.heap.size W w.drew := below_drewN h 1

/-- Whether bytes are a seal, and of what. -/
def opens (l : List Int) : Bool := decide (4 ≤ l.length ∧ tailB (sumOf (l.take (l.length - 4))) = l.drop (l.length - 4))
def opened (l : List Int) : List Int := if opens l then l.take (l.length - 4) else []
/-- What an Open leaves. -/
def OpenMade (l : List Int) (w : World) (e : Ending) (w' : World) : Prop :=
  ∃ A c, e = .returned (.tuple #[.slice A (opened l).length c, .bool (opens l)]) ∧ w'.ownsRow w.heap.size 5 1 (.slice A (opened l).length c) (opened l).length (bv (opened l)) ∧ Below w.heap.size w w'
theorem OpenMade.no {l : List Int} {w w' : World} (h : opens l = false) (hb : Below w.heap.size w w') : OpenMade l w (.returned (.tuple #[.slice none 0 0, .bool false])) w' := by
  have e : opened l = [] := by simp [opened, h]
  refine ⟨none, 0, ?_, ?_, hb⟩
  · rw [e, h]; rfl
  · rw [e]; exact World.ownsRow_nil _ _ _ _

theorem OpenMade.yes {l : List Int} {w w' : World} {n : Nat} {A : Option Addr} {c : Nat} (h : opens l = true) (hln : l.length = n + 4) (ho : w'.ownsRow w.heap.size 5 1 (.slice A n c) n (bv (l.take n))) (hb : Below w.heap.size w w') :
    OpenMade l w (.returned (.tuple #[.slice A n c, .bool true])) w' := by
  have e : opened l = l.take n := by
    have e1 : l.length - 4 = n := by omega
    simp [opened, h, e1]
  have e2 : (l.take n).length = n := by rw [List.length_take]; omega
  refine ⟨A, c, ?_, ?_, hb⟩
  · rw [e, h, e2]
  · rw [e, e2]; exact ho

set_option linter.unusedSimpArgs false in
set_option maxRecDepth 100000 in
set_option maxHeartbeats 1000000 in
theorem open_any (l : List Int) (hb : Small l) (hn : l.length ≤ 100000) (A : Option Addr) (c : Nat) (w : World) (hs : Src w A l.length c (bv l)) :
    Calls Try.prog 79 #[.slice A l.length c] w (OpenMade l w) := by
  by_cases h4 : l.length < 4
  · have HO : Hid (opens l = false) := Lib.hid (decide_eq_false (fun h => by omega))
    have hlt : (l.length : Int) - 4 < 0 := by omega
    clear hs hb
    go_enter Try.func79, Try.ntmps79
    go_wp2_with fail
    go_quiet (fail)
    go_wp2_with fail
    exact bodyPost_ret (v := .tuple #[.slice none 0 0, .bool false]) (by simp [results, Try.results79, go_sem]) rfl (OpenMade.no HO.out (below_drewN (Below.refl _ _) _))
  · cases A with
    | none => have := (hs.nil rfl).1; omega
    | some ad =>
      obtain ⟨n, hln⟩ : ∃ n, l.length = n + 4 := ⟨l.length - 4, by omega⟩
      have hcap := hs.cap
      have S1 : Src w (some ad) n c (bv (l.take n)) := src_take hs (by omega)
      have S2 : Src w (some (ad.add n)) 4 (c - n) (bv (l.drop n)) := by have h := src_drop hs (by omega : n ≤ l.length); rw [hln] at h; simpa using h
      have hb1 : Small (l.take n) := fun x hx => hb x (List.mem_of_mem_take hx)
      have l1 : (l.take n).length = n := by rw [List.length_take]; omega
      have l2 : (l.drop n).length = 4 := by rw [List.length_drop]; omega
      have HS1 := Lib.hid S1
      have HS2 := Lib.hid S2
      have HB1 := Lib.hid hb1
      have L1 := Lib.hid l1
      have L2 := Lib.hid l2
      have HLN := Lib.hid hln
      have hn1 : n ≤ c := by omega
      have hn2 : n + 4 ≤ c := by omega
      have hn3 : n ≤ 100000 := by omega
      have hcm := hs.most
      have hcn : ¬ c = n := by omega
      have i0 : (0 : Int) ≤ (n : Int) := by omega
      have i1 : (n : Int) ≤ (n : Int) + 4 := by omega
      have i2 : (n : Int) ≤ (c : Int) := by omega
      rw [hln]
      clear hs hb S1 S2 hb1 l1 l2 hln h4 hcap
      go_enter Try.func79, Try.ntmps79
      have OF : Hid (∀ (A : Option Addr) (c : Nat) (w : World), Parts w A c [l.take n] → Calls Try.prog 73 #[.slice A 1 c] w fun e w' => e = .returned (.int .u32 (sumOf (l.take n)).toNat) ∧ w' = w) := Lib.hid (fun A c w h => of_one (l.take n) HB1.out (by rw [L1.out]; omega) A c w h)
      have T1 : Hid (∀ w', Below w.heap.size w w' → Src w' (some ad) n c (bv (l.take n))) := Lib.hid (fun w' hbw => HS1.out.same fun a had hne => hbw.block _ (HS1.out.lt had hne))
      have EQ : Hid (∀ (A' : Option Addr) (c' : Nat) (w' : World), Below w.heap.size w w' → Src w' A' 4 c' (bv (tailB (sumOf (l.take n)))) → Calls Try.prog 86 #[.slice A' 4 c', .slice (some (ad.add n)) 4 (c - n)] w' fun e w2 => e = .returned (.bool (decide (tailB (sumOf (l.take n)) = l.drop n))) ∧ Below w'.heap.size w' w2) := Lib.hid (fun A' c' w' hbw ht => by
        have h1 : Src w' (some (ad.add n)) (l.drop n).length (c - n) (bv (l.drop n)) := by rw [L2.out]; exact HS2.out.same fun a had hne => hbw.block _ (HS2.out.lt had hne)
        have h := equal_any (tailB (sumOf (l.take n))) (l.drop n) (by simp [tailB]) A' (some (ad.add n)) c' (c - n) w' ht h1
        rw [L2.out] at h
        exact h)
      have HOP : Hid (opens l = decide (tailB (sumOf (l.take n)) = l.drop n)) := Lib.hid (by
        have e : l.length - 4 = n := by have := HLN.out; omega
        have h4 : 4 ≤ l.length := by have := HLN.out; omega
        simp only [opens, e, h4, true_and])
      go_wp2_with fail
      go_region_held3 (fun w' => w.heap.size ≤ w'.heap.size) (first | (simp; done) | (simp; omega) | (have h := HB3.out.size; simp at h; omega)) ((first
        | (go_at_call 73; refine (OF.out _ _ _ ?pp).mono ?_; (case pp => (repeat (first | (refine parts_w ?_ L1.out (T1.out _ ?_); simp; (repeat (first | exact Below.refl _ _ | apply below_al | apply below_dr)); done) | apply parts_al | apply parts_dr)); done); rintro e w1 ⟨rfl, rfl⟩)
        | (go_at_call 72; refine (tail_any _ _).mono ?_; rintro e w2 ⟨rfl, rfl⟩)
        | (go_at_call 86; refine (EQ.out _ _ _ ?pb ?ps).mono ?_; (case pb => (repeat (first | exact Below.refl _ _ | apply below_al | apply below_dr)); done); (case ps => (repeat (first | (refine tail_src ?_ _; simp; done) | apply src_al | apply src_dr)); done); rintro e w3 ⟨rfl, hb3⟩; have HB3 := Lib.hid hb3; clear hb3)))
      have b3 : Below w.heap.size w w3 := by
        refine Below.trans ?_ (HB3.out.mono (by simp; omega))
        repeat (first | exact Below.refl _ _ | apply below_al | apply below_dr)
      have HB4 := Lib.hid b3
      clear b3 HB3
      clear EQ
      generalize decide (tailB (sumOf (l.take n)) = l.drop n) = bt at HOP ⊢
      have hneg : decide ((n : Int) < 0) = false := decide_eq_false (by omega)
      cases bt
      rotate_left
      · have HOT : Hid (opens l = true) := Lib.hid HOP.out
        simp only [hneg, Bool.not_true, Bool.not_false, Bool.false_or, Bool.or_false, Bool.or_true]
        clear hneg
        go_wp2_with fail
        have h1 : Src w3 (some ad) (l.take n).length c (bv (l.take n)) := by rw [L1.out]; exact T1.out w3 HB4.out
        have hc := clone_any (l.take n) (some ad) c w3 h1 (by rw [L1.out]; omega)
        rw [L1.out] at hc
        refine hc.mono ?_
        rintro e w4 ⟨v, rfl, hown, hbel, -⟩
        rw [L1.out] at hown
        have HO := Lib.hid hown
        have HBL := Lib.hid hbel
        obtain ⟨A4, c4, rfl, -⟩ := own_form hown
        clear hown hbel hc h1
        go_wp2_with fail
        exact bodyPost_ret (v := .tuple #[.slice A4 n c4, .bool true]) (by simp [results, Try.results79, go_sem]) rfl (OpenMade.yes HOT.out HLN.out (own_base HO.out HB4.out.size) (HB4.out.trans (HBL.out.mono HB4.out.size)))
      · have HOT : Hid (opens l = false) := Lib.hid HOP.out
        simp only [hneg, Bool.not_true, Bool.not_false, Bool.false_or, Bool.or_false, Bool.or_true]
        clear hneg
        go_wp2_with fail
        exact bodyPost_ret (v := .tuple #[.slice none 0 0, .bool false]) (by simp [results, Try.results79, go_sem]) rfl (OpenMade.no HOT.out HB4.out)
end Go.Proofs.Ytogkibikghbghaa.Crc
