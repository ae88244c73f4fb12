/- The laws CrcSums and CrcLinear of floodgate's crc layer: the sum of any bytes. There are no conditions. -/
import Derived.Test.YtgpfjeoomaadoaaFgCrcSeal
namespace Go.Proofs.Ytgpfjeoomaadoaa.Crc
open Go.RowKit Go.Proofs.Ytgpfjeoomaadoaa.Fg Go.ChangeShapes Go.WideShapes Go.ChangeAt

/-- A slice of bytes that came in. -/
theorem open_bytes_arg {H : Type} {enc : TypeId × Value → H} {w : World} {spare : Nat → Bool} {held : Bool} {v : Value} {d : DataW H} {p : List MemPlace} {b0 : Nat} {r : Reach}
    (hv : Value.okWide Try.prog w r b0 22 v) (h : DataW.Trod enc Try.prog w 0 spare held 22 v d p) (hw : ∀ n ∈ d.weights Try.prog 22, n ≤ reachBytes) :
    ∃ (A : Option Addr) (c : Nat) (l : List Int), v = .slice A l.length c ∧ Src w A l.length c (bv l) ∧ l.length ≤ reachBytes ∧ Small l := by
  obtain ⟨a0, len0, cap0, rfl⟩ := okWide_slice Try.underlying22 hv
  obtain ⟨fuel, hf⟩ := h
  have hf' : DataW.trod enc Try.prog w 0 spare held fuel 22 [.slice a0 len0 cap0] = some (d, p) := hf
  exact open_bytes hf' hw
theorem of_two (l m : List Int) (hb : Small l) (hb' : Small m) (hn : l.length ≤ 140737488355328) (hn' : m.length ≤ 140737488355328) (A : Option Addr) (c : Nat) (w : World) (hs : Parts w A c [l, m]) :
    Calls Try.prog 8 #[.slice A 2 c] w fun e w' => e = .returned (.int .u32 (sumOf (l ++ m)).toNat) ∧ w' = w := by
  have h := of_any [l, m] (fun x hm => by
    rcases List.mem_cons.1 hm with h | h
    · subst h; exact ⟨hb, hn⟩
    · rw [List.mem_singleton] at h; subst h; exact ⟨hb', hn'⟩) (by simp) A c w hs
  rw [show [l, m].flatten = l ++ m by simp] at h
  exact h
theorem parts2_at {w : World} {g : Nat} (hg : w.heap.size = g) {A A' : Option Addr} {c c' : Nat} {l l' : List Int} (t : TypeId) (h : Src w A l.length c (bv l)) (h' : Src w A' l'.length c' (bv l')) :
    Parts (w.alloc (.cells #[.slice A l.length c, .slice A' l'.length c'] t)) (some ⟨g, 0, none⟩) 2 [l, l'] := by
  subst hg; exact parts_two w A A' c c' l l' t h h'

set_option maxRecDepth 100000 in
set_option maxHeartbeats 1000000 in
theorem sums_any (la lb : List Int) (ha : Small la) (hb : Small lb) (A B : Option Addr) (c d : Nat) (W : World) (hsa : Src W A la.length c (bv la)) (hsb : Src W B lb.length d (bv lb)) :
    Calls Try.prog 3 #[.slice A la.length c, .slice B lb.length d] W fun e w' => e = .returned (.bool true) ∧ Below W.heap.size W w' := by
  have HA := Lib.hid ha
  have HB := Lib.hid hb
  have HAB : Hid (Small (la ++ lb)) := Lib.hid (fun x hx => by
    rcases List.mem_append.1 hx with h | h
    · exact ha x h
    · exact hb x h)
  have HSA := Lib.hid hsa
  have HSB := Lib.hid hsb
  have HM : Hid (more (sumOf la) lb = sumOf (la ++ lb)) := Lib.hid (more_append _ _ _).symm
  clear ha hb hsa hsb
  go_enter Try.func3, Try.ntmps3
  go_wp2_with fail
  refine (alive_any W).mono ?_
  rintro e w0 ⟨rfl, hb0⟩
  have hs0 := hb0.size
  have SA : Hid (∀ w', Below W.heap.size W w' → Src w' A la.length c (bv la)) := Lib.hid (fun w' hb => HSA.out.same fun ad had hne => hb.block _ (HSA.out.lt had hne))
  have SB : Hid (∀ w', Below W.heap.size W w' → Src w' B lb.length d (bv lb)) := Lib.hid (fun w' hb => HSB.out.same fun ad had hne => hb.block _ (HSB.out.lt had hne))
  have HB0 := Lib.hid hb0
  clear hb0 HSA HSB
  by_cases h1 : 500 < (la.length : Int)
  · go_wp2_with fail
    go_ret
    exact ⟨rfl, HB0.out⟩
  · by_cases h2 : 500 < (lb.length : Int)
    · go_wp2_with fail
      go_ret
      exact ⟨rfl, HB0.out⟩
    · go_wp2_with (at_builtin; refine wpList_append_any rfl (.tmp 17) (.tmp 18) 22 rfl W.heap.size 5 (.int .u8 0) 1 1 Try.underlying22 info_u8 rfl (by decide) (by decide) (.slice (some ⟨w0.heap.size, 0, none⟩) 0 0) 0 [] rfl ?a1 A la.length c (bv la) rfl ?a2 ?a3 (bv_one la) ?a5 ?a6 ?a7)
      case a1 => exact World.ownsRow_made w0 #[] 0 hs0 (Nat.zero_le _) rfl
      case a2 => exact SA.out _ (HB0.out.alloc hs0 _)
      case a3 => simp [bv]
      case a5 => omega
      case a6 => simp; omega
      intro v1 w1 hown1 hgr1 _ _
      have b1 : Below w0.heap.size w0 w1 := ((Below.refl _ _).alloc (Nat.le_refl _) (.cells #[] 5)).grown hgr1 (by simp) (by simp [Value.ownBlock])
      have hs1 := b1.size
      have HB1 := Lib.hid b1
      have HO1 := Lib.hid hown1
      obtain ⟨A1, c1, rfl, -⟩ := own_form hown1
      clear b1 hown1 hgr1
      go_wp2_with (at_builtin; refine wpList_append_any rfl (.tmp 19) (.tmp 20) 22 rfl W.heap.size 5 (.int .u8 0) 1 1 Try.underlying22 info_u8 rfl (by decide) (by decide) (.slice A1 la.length c1) la.length (bv la) rfl HO1.out B lb.length d (bv lb) rfl ?b2 ?b3 (bv_one lb) ?b5 ?b6 ?b7)
      case b2 => exact SB.out _ (HB0.out.trans (HB1.out.mono hs0))
      case b3 => simp [bv]
      case b5 => omega
      case b6 => omega
      intro v2 w2 hown2 hgr2 _ _
      have b2 : Below W.heap.size W w2 := (HB0.out.trans (HB1.out.mono hs0)).grown hgr2 (by omega) (fun k hk => (HO1.out.lt k hk).1)
      have HB2 := Lib.hid b2
      obtain ⟨A2, c2, rfl, -⟩ := own_form hown2
      have s2 := Src.of_own hown2
      rw [← bv_append] at s2
      have s2' : Src w2 A2 (la ++ lb).length c2 (bv (la ++ lb)) := by rw [List.length_append]; exact s2
      have HS2 := Lib.hid s2'
      have hs2 := b2.size
      have hr := refof_any (la ++ lb) HAB.out (by rw [List.length_append]; omega) A2 c2 w2 s2'
      rw [List.length_append] at hr
      have HR := Lib.hid hr
      clear hown2 hgr2 b2 s2 s2' hr
      go_wp2_with fail
      refine HR.out.mono ?_
      rintro e w3 ⟨rfl, rfl⟩
      go_wp2_with fail
      refine (of_two la lb HA.out HB.out (by omega) (by omega) _ _ _ (parts2_at rfl 22 (SA.out _ HB2.out) (SB.out _ HB2.out))).mono ?_
      rintro e w4 ⟨rfl, rfl⟩
      go_wp2_with fail
      have q1 := parts_at (w := w3.alloc (.cells #[.slice A la.length c, .slice B lb.length d] 22)) (g := w3.heap.size + 1) (by simp) 22 (HS2.out.same fun ad had hne => heap_alloc_old _ _ (HS2.out.lt had hne))
      rw [List.length_append] at q1
      refine (of_one (la ++ lb) HAB.out (by rw [List.length_append]; omega) _ _ _ q1).mono ?_
      rintro e w4 ⟨rfl, rfl⟩
      clear q1
      generalize hw4 : (w3.alloc (.cells #[.slice A la.length c, .slice B lb.length d] 22)).alloc (.cells #[.slice A2 (la.length + lb.length) c2] 22) = w4
      have HB4 : Hid (Below W.heap.size W w4) := by rw [← hw4]; exact Lib.hid ((HB2.out.alloc hs2 _).alloc (by simp; omega) _)
      clear hw4
      go_wp2_with fail
      refine (of_one la HA.out (by omega) _ _ _ (parts_at (w := w4) rfl 22 (SA.out _ HB4.out))).mono ?_
      rintro e w5 ⟨rfl, rfl⟩
      go_wp2_with fail
      have HB5 : Hid (Below W.heap.size W (w4.alloc (.cells #[.slice A la.length c] 22))) := Lib.hid (HB4.out.alloc HB4.out.size _)
      refine (more_any _ lb HB.out B d _ (SB.out _ HB5.out) (by omega)).mono ?_
      rintro e w6 ⟨rfl, rfl⟩
      rw [HM.out]
      go_wp2_with fail
      refine (of_any [] (by simp) (by simp) none 0 _ ⟨[], rfl, ⟨fun _ => ⟨rfl, rfl⟩, Nat.le_refl _, by simp [maxLen], fun _ h => by cases h⟩, fun j x l h => by simp at h⟩).mono ?_
      rintro e w7 ⟨rfl, rfl⟩
      go_wp2_with fail
      refine (refof_any [] (fun x h => by cases h) (by simp) none 0 _ ⟨fun _ => ⟨rfl, rfl⟩, Nat.le_refl _, by simp [maxLen], fun _ h => by cases h⟩).mono ?_
      rintro e w8 ⟨rfl, rfl⟩
      go_wp2_with fail
      go_ret
      exact ⟨rfl, HB5.out⟩

set_option maxRecDepth 100000 in
theorem sums_lifted (os : Os) (started : os.Started) (H : Type) (enc : TypeId × Value → H) :
    ReturnsInHanded {} Try.checked os 3 .any (Rows.crcSumsSpec.pre6 enc Try.prog Try.f3 Rows.crcSumsRow.domain false) (Rows.crcSumsSpec.post enc Try.prog Try.f3 false true false false) := by
  refine law_lifted (C := Try.checked) laidOut own started (by kernel_rfl) Try.func3 rfl Try.underlying4 (by kernel_rfl) rfl
    (ChangeSpec.witness6 (enc := enc) (C := Try.checked) false ⟨#[], #[.slice none 0 0, .slice none 0 0], []⟩ 8 (by kernel_rfl) (by kernel_rfl) (by kernel_rfl) (by kernel_rfl)) ?_
  intro W base args ds p hval0 hA0 _ hsz0
  have hval : ∀ (j : Nat) t v, Try.f3.params[j]? = some t → args[j]? = some v → Value.okWide Try.prog W .any base t v := hval0
  have hA : DataW.TrodAll enc Try.prog W 0 (fun _ => true) true Try.f3.params.toList args ds p := hA0
  have hsz : (DataW.weightsEach Try.prog Try.f3.params.toList ds).all (· ≤ reachBytes) = true := hsz0
  rw [Try.params3] at hA hval hsz
  obtain ⟨v0, vs0, d0, ds0, p0, q0, rfl, rfl, rfl, h0, r0⟩ := trodAll_cons hA
  obtain ⟨v1, vs1, d1, ds1, p1, q1, rfl, rfl, rfl, h1, r1⟩ := trodAll_cons r0
  obtain ⟨rfl, rfl, rfl⟩ := trodAll_nil r1
  obtain ⟨A, c, la, rfl, sa, ra, ba⟩ := open_bytes_arg (hval 0 _ v0 rfl rfl) h0 (fun n hn => of_decide_eq_true (List.all_eq_true.1 hsz n (DataW.weights_mem_each (j := 0) rfl rfl n hn)))
  obtain ⟨B, d, lb, rfl, sb, rb, bb⟩ := open_bytes_arg (hval 1 _ v1 rfl rfl) h1 (fun n hn => of_decide_eq_true (List.all_eq_true.1 hsz n (DataW.weights_mem_each (j := 1) rfl rfl n hn)))
  exact ⟨rfl, sums_any la lb ba bb A B c d W sa sb⟩
end Go.Proofs.Ytgpfjeoomaadoaa.Crc
namespace Go.Proofs.Ytgpfjeoomaadoaa
/-- The row, under a short name, for the claim. -/
theorem crcSums_holds : Rows.CrcSumsSaid :=
  OpenClaim.holds_of_wide 3 Try.f3 rfl rfl rfl rfl rfl rfl rfl ⟨rfl, rfl, rfl, rfl, rfl⟩ rfl rfl rfl rfl rfl (by kernel_rfl) Try.func3 (by kernel_rfl)
    (of_decide_eq_true (by kernel_rfl)) (by unfold Func.isWrapper; first | (rw [if_pos (by decide +kernel)]; kernel_rfl) | (rw [if_neg (by decide +kernel)]; exact ⟨rfl, rfl⟩))
    (fun os started H enc _ => Crc.sums_lifted os started H enc)
#print axioms crcSums_holds
end Go.Proofs.Ytgpfjeoomaadoaa
