/- Contract of the document's Seal. Conditions: none beyond each lemma's own hypotheses. -/
import Derived.Test.YtogkibikghbghaaFgCrcOpen0
import Derived.Test.YtogkibikghbghaaFgCrcRef
set_option linter.unusedVariables false
set_option linter.unusedSimpArgs false
namespace Go.Proofs.Ytogkibikghbghaa.Crc
open Go.RowKit Go.Proofs.Ytogkibikghbghaa.Fg

set_option maxRecDepth 100000 in
theorem refseal_any (l : List Int) (hb : Small l) (hn : l.length ≤ 100000) (A : Option Addr) (c : Nat) (w : World) (hs : Src w A l.length c (bv l)) :
    Calls Try.prog 66 #[.slice A l.length c] w (SealMade l w) := by
  have hR := refof_any l hb (by omega) A c w hs
  have HT : Hid (bv (tailB (sumOf l)) = [.int .u8 (((sumOf l).toNat : Int) / (16777216 : Int)), .int .u8 (((sumOf l).toNat : Int) / (65536 : Int) % (256 : Int)), .int .u8 (((sumOf l).toNat : Int) / (256 : Int) % (256 : Int)), .int .u8 (((sumOf l).toNat : Int) % (256 : Int))]) := Lib.hid rfl
  have hlt := (sumOf l).isLt
  have HS := Lib.hid hs
  have HR := Lib.hid hR
  have HSE : Hid (bv (sealed l) = bv l ++ bv (tailB (sumOf l))) := Lib.hid (bv_append _ _)
  clear hs hb hR
  generalize sumOf l = s at *
  go_enter Try.func66, Try.ntmps66
  go_wp2_with fail
  refine HR.out.mono ?_
  rintro e w1 ⟨rfl, rfl⟩
  go_wp2_with (at_builtin; refine wpList_append_any rfl (.tmp 7) (.tmp 8) 37 rfl w1.heap.size 5 (.int .u8 0) 1 1 Try.underlying37 info_u8 rfl (by decide) (by decide) (.slice (some ⟨w1.heap.size, 0, none⟩) 0 0) 0 [] rfl ?a1 A l.length c (bv l) rfl ?a2 ?a3 (bv_one l) ?a5 ?a6 ?a7)
  case a1 => exact World.ownsRow_made w1 #[] 0 (Nat.le_refl _) (Nat.zero_le _) rfl
  case a2 => exact HS.out.same fun ad had hne => heap_alloc_old _ _ (HS.out.lt had hne)
  case a3 => simp [bv]
  case a5 => omega
  case a6 => simp
  intro v2 w2 hown2 hgr2 _ _
  have b2 : Below w1.heap.size w1 w2 := ((Below.refl _ _).alloc (Nat.le_refl _) (.cells #[] 5)).grown hgr2 (by simp) (by simp [Value.ownBlock])
  have HB2 := Lib.hid b2
  have HO2 := Lib.hid hown2
  obtain ⟨A2, c2, rfl, -⟩ := own_form hown2
  clear b2 hown2 hgr2
  have TS : Hid (Src (w2.alloc (.cells #[.int .u8 ((s.toNat : Int) / (16777216 : Int)), .int .u8 ((s.toNat : Int) / (65536 : Int) % (256 : Int)), .int .u8 ((s.toNat : Int) / (256 : Int) % (256 : Int)), .int .u8 ((s.toNat : Int) % (256 : Int))] 5)) (some ⟨w2.heap.size, 0, none⟩) 4 4 (bv (tailB s))) := Lib.hid (tail_src rfl s)
  go_wp2_with (at_builtin; refine wpList_append_any rfl (.tmp 10) (.tmp 25) 37 rfl w1.heap.size 5 (.int .u8 0) 1 1 Try.underlying37 info_u8 rfl (by decide) (by decide) (.slice A2 l.length c2) l.length (bv l) rfl ?b1 (some ⟨w2.heap.size, 0, none⟩) 4 4 (bv (tailB s)) rfl TS.out rfl (bv_one _) ?b5 ?b6 ?b7)
  case b1 => exact HO2.out.alloc _
  case b5 => omega
  case b6 => have := HB2.out.size; simp; omega
  intro v3 w3 hown3 hgr3 _ _
  have hs2 := HB2.out.size
  have b3 : Below w1.heap.size w1 w3 := (HB2.out.alloc hs2 (.cells #[.int .u8 ((s.toNat : Int) / (16777216 : Int)), .int .u8 ((s.toNat : Int) / (65536 : Int) % (256 : Int)), .int .u8 ((s.toNat : Int) / (256 : Int) % (256 : Int)), .int .u8 ((s.toNat : Int) % (256 : Int))] 5)).grown hgr3 (by simp; omega) (fun k hk => (HO2.out.lt k hk).1)
  rw [← HSE.out] at hown3
  have HB3 := Lib.hid b3
  have HO3 := Lib.hid hown3
  obtain ⟨A3, c3, rfl, -⟩ := own_form hown3
  clear b3 hown3 hgr3
  go_wp2_with fail
  go_ret
  exact ⟨A3, c3, rfl, HO3.out, HB3.out⟩
end Go.Proofs.Ytogkibikghbghaa.Crc
