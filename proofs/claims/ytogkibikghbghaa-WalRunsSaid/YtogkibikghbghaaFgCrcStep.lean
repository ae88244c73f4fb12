/- Contracts of crc's step and More. Conditions: none beyond each lemma's own hypotheses. -/
import Derived.Test.YtogkibikghbghaaFgCrcPure
import Derived.Test.YtogkibikghbghaaFgConcat
import Derived.ScopeJumps
import Derived.WalkMore
namespace Go.Proofs.Ytogkibikghbghaa.Crc
open Go.RowKit Go.Proofs.Ytogkibikghbghaa.Fg
set_option maxRecDepth 100000 in
theorem step_any (s : BitVec 32) (c : Int) (h0 : 0 ≤ c) (h1 : c ≤ 255) (w : World) :
    Calls Try.prog 89 #[.int .u32 s.toNat, .int .u8 c] w fun e w' => e = .returned (.int .u32 (feed s c).toNat) ∧ w' = w := by
  obtain ⟨s1, hs1⟩ : ∃ s1, s ^^^ inj c = s1 := ⟨_, rfl⟩
  have HF : Hid (feed s c = shN 8 s1) := Lib.hid (by rw [← hs1]; rfl)
  have HS := Lib.hid hs1
  clear hs1
  go_enter Try.func89, Try.ntmps89
  go_wp2
  refine wp_scope_jumps 0 (fun a' w' => w' = w ∧ ∃ (n : Nat) (u6 u7 u8 u9 u10 u11 u12 u13 u14 u15 u16 u17 u18 u19 u20 u21 u22 u23 : Value), a' = { tmps := #[.int .u32 (shN n s1).toNat, .int .u8 c, undef, undef, .int .u32 0, .int .i64 n, u6, u7, u8, u9, u10, u11, u12, u13, u14, u15, u16, u17, u18, u19, u20, u21, u22, u23], defers := [] } ∧ 1 ≤ n ∧ n ≤ 7) (fun a' _ => 8 - (intOf (a'.tmps.getD 5 undef)).toNat) rfl ?_ ?_
  · go_wp2
    rw [x_inj c h0 h1, x_xor, HS.out]
    go_step3
    go_wp2
    go_step3
    rw [x_step]
    exact ⟨rfl, rfl, 1, _, _, _, _, _, _, _, _, _, _, _, _, _, _, _, _, _, _, rfl, by omega, by omega⟩
  · rintro a' w' ⟨rfl, n, u6, u7, u8, u9, u10, u11, u12, u13, u14, u15, u16, u17, u18, u19, u20, u21, u22, u23, rfl, hn1, hn2⟩
    go_wp2
    · rename_i hlt
      go_step3
      rw [x_step]
      refine ⟨rfl, ⟨rfl, n + 1, _, _, _, _, _, _, _, _, _, _, _, _, _, _, _, _, _, _, rfl, by omega, by omega⟩, ?_⟩
      simp [intOf]
      omega
    · rename_i hge
      simp only [Exit.jump]
      obtain rfl : n = 7 := by omega
      rw [x_step]
      go_ret
      exact ⟨by rw [HF.out]; rfl, rfl⟩

/-- The bytes of a slice that is read. -/
theorem src_byte {w : World} {A : Option Addr} {c : Nat} {l : List Int} (h : Src w A l.length c (bv l)) {j : Nat} (hj : j < l.length) : ∃ ad, A = some ad ∧ w.cell? (ad.add j) = some (.int .u8 l[j]) := by
  cases A with
  | none => have := (h.nil rfl).1; omega
  | some ad => exact ⟨ad, rfl, h.cells ad rfl j _ (by simp [bv, hj])⟩
theorem feeds_snoc (s : BitVec 32) (l : List Int) {j : Nat} (hj : j < l.length) : feed (feeds s (l.take j)) l[j] = feeds s (l.take (j + 1)) := by
  rw [List.take_add_one, List.getElem?_eq_getElem hj, feeds_append]
  rfl
def Small (l : List Int) : Prop := ∀ x ∈ l, 0 ≤ x ∧ x ≤ 255

set_option maxRecDepth 100000 in
theorem more_any (s : BitVec 32) (l : List Int) (hb : Small l) (A : Option Addr) (c : Nat) (w : World) (hs : Src w A l.length c (bv l)) (hn : l.length ≤ 140737488355328) :
    Calls Try.prog 82 #[.int .u32 s.toNat, .slice A l.length c] w fun e w' => e = .returned (.int .u32 (more s l).toNat) ∧ w' = w := by
  have HS := Lib.hid hs
  have HB := Lib.hid hb
  clear hs hb
  go_enter Try.func82, Try.ntmps82
  go_wp2_with fail
  go_loopg [5, 12] l.length (fun k s5 i wr => ∃ j : Nat, j + k = l.length ∧ i = .int .i64 j ∧ s5 = .int .u32 (feeds (~~~ s) (l.take j)).toNat ∧ wr = w)
  case atStart => exact ⟨0, Nat.zero_add _, rfl, by rw [x_not]; rfl, rfl⟩
  case round =>
    obtain ⟨j, hj, rfl, rfl, rfl⟩ := hrel
    by_cases hlt : j < l.length
    · obtain ⟨ad, rfl, hc⟩ := src_byte HS.out hlt
      have hx := HB.out _ (List.getElem_mem hlt)
      have HF := Lib.hid (feeds_snoc (~~~ s) l hlt)
      generalize l[j] = x at hc hx HF
      go_wp2_with fail
      refine (step_any _ x hx.1 hx.2 _).mono ?_
      rintro e w' ⟨rfl, rfl⟩
      go_wp2_with fail
      go_roundg (gk - 1)
      case measure => omega
      case rel => exact ⟨j + 1, by omega, by go_num, by rw [HF.out], rfl⟩
    · have hjl : j = l.length := by omega
      go_wp2_with fail
      rw [x_not]
      go_ret
      subst hjl
      rw [List.take_length]
      exact ⟨rfl, rfl⟩

set_option maxRecDepth 100000 in
theorem of_any (ls : List (List Int)) (hb : ∀ l ∈ ls, Small l ∧ l.length ≤ 140737488355328) (hl : ls.length ≤ 1000) (A : Option Addr) (c : Nat) (w : World) (hs : Parts w A c ls) :
    Calls Try.prog 73 #[.slice A ls.length c] w fun e w' => e = .returned (.int .u32 (sumOf ls.flatten).toNat) ∧ w' = w := by
  obtain ⟨vs, hvl, hs, hx⟩ := hs
  have HVL := Lib.hid hvl
  have HS := Lib.hid hs
  have HX := Lib.hid hx
  have HB := Lib.hid hb
  clear hs hx hb hvl
  go_enter Try.func73, Try.ntmps73
  go_wp2_with fail
  go_loopg [3, 8] ls.length (fun k s3 i wr => ∃ j : Nat, j + k = ls.length ∧ i = .int .i64 j ∧ s3 = .int .u32 (sumOf (ls.take j).flatten).toNat ∧ wr = w)
  case atStart => exact ⟨0, Nat.zero_add _, rfl, by rw [show (ls.take 0).flatten = [] from rfl, sumOf_nil]; rfl, rfl⟩
  case round =>
    obtain ⟨j, hj, rfl, rfl, rfl⟩ := hrel
    by_cases hlt : j < ls.length
    · have hv : j < vs.length := by rw [HVL.out]; exact hlt
      obtain ⟨A', c', hx, hsrc⟩ := HX.out j vs[j] ls[j] (List.getElem?_eq_getElem hv) (List.getElem?_eq_getElem hlt)
      have hbl := HB.out _ (List.getElem_mem hlt)
      have HF : Hid (more (sumOf (ls.take j).flatten) ls[j] = sumOf (ls.take (j + 1)).flatten) := by
        refine Lib.hid ?_
        rw [List.take_add_one, List.getElem?_eq_getElem hlt]
        simp only [Option.toList_some, List.flatten_append, List.flatten_cons, List.flatten_nil, List.append_nil, sumOf]
        rw [more_append]
      cases A with
      | none => have := (HS.out.nil rfl).1; omega
      | some ad =>
        have hc := HS.out.cells ad rfl j vs[j] (List.getElem?_eq_getElem hv)
        rw [hx] at hc
        have HSR := Lib.hid hsrc
        have HBL := Lib.hid hbl
        clear hx hsrc hbl
        generalize ls[j] = l at hc HF HSR HBL
        go_wp2_with fail
        refine (more_any _ l HBL.out.1 A' c' _ HSR.out HBL.out.2).mono ?_
        rintro e w' ⟨rfl, rfl⟩
        go_wp2_with fail
        go_roundg (gk - 1)
        case measure => omega
        case rel => exact ⟨j + 1, by omega, by go_num, by rw [HF.out], rfl⟩
    · have hjl : j = ls.length := by omega
      go_wp2_with fail
      go_ret
      subst hjl
      rw [List.take_length]
      exact ⟨rfl, rfl⟩

end Go.Proofs.Ytogkibikghbghaa.Crc
