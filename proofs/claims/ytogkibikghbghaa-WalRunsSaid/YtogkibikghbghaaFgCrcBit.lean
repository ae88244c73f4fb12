/- Contract of the document's bit of bytes. Conditions: none beyond each lemma's own hypotheses. -/
import Derived.Test.YtogkibikghbghaaFgCrcStep
namespace Go.Proofs.Ytogkibikghbghaa.Crc
open Go.RowKit Go.Proofs.Ytogkibikghbghaa.Fg

set_option maxRecDepth 100000 in
theorem bit_any (l : List Int) (hb : Small l) (n : Nat) (hn : n < 8 * l.length) (hl : l.length ≤ 1000000) (A : Option Addr) (c : Nat) (w : World) (hs : Src w A l.length c (bv l)) :
    Calls Try.prog 84 #[.slice A l.length c, .int .i64 n] w fun e w' => e = .returned (.bool (bitOf (l.getD (n / 8) 0) (n % 8))) ∧ w' = w := by
  have hd : n / 8 < l.length := by omega
  obtain ⟨ad, rfl, hc⟩ := src_byte hs hd
  have hx := hb _ (List.getElem_mem hd)
  rw [List.getD_eq_getElem?_getD, List.getElem?_eq_getElem hd, Option.getD_some]
  generalize l[n / 8] = x at hc hx ⊢
  have HL := Lib.hid hn
  clear hs hb hn
  go_enter Try.func84, Try.ntmps84
  have ht : (x / 2 ^ (7 - n % 8)).tmod 2 = x / 2 ^ (7 - n % 8) % 2 := Int.tmod_eq_emod_of_nonneg (Int.ediv_nonneg hx.1 (Int.le_of_lt (Int.pow_pos (by decide))))
  have HT := Lib.hid ht
  clear ht
  go_wp2_with fail
  rw [HT.out]
  go_ret
  exact ⟨rfl, rfl⟩
end Go.Proofs.Ytogkibikghbghaa.Crc
