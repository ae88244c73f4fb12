/- Contracts of the document's Same, at two headers that are one, and of the law's example. Conditions: none beyond each lemma's own hypotheses. -/
import Derived.Test.YtjembpchgemhnaaFgHeadRead
set_option linter.unusedVariables false
set_option linter.unusedSimpArgs false
namespace Go.Proofs.Ytjembpchgemhnaa.Head
open Go.RowKit Go.Proofs.Ytjembpchgemhnaa.Fg

set_option maxRecDepth 100000 in
set_option maxHeartbeats 1000000 in
theorem same_any (h : Hd) (A A2 : Option Addr) (c c2 : Nat) (w : World) (h1 : Src w A h.opts.length c (bv h.opts)) (h2 : Src w A2 h.opts.length c2 (bv h.opts)) :
    Calls Try.prog 17 #[.agg (hv h A c), .agg (hv h A2 c2)] w fun e w' => e = .returned (.bool true) ∧ Below w.heap.size w w' := by
  have T1 : Hid (∀ w', Below w.heap.size w w' → (convert 24 9 (.slice A h.opts.length c)).run Try.prog w' = .ok (.string (strOfNums h.opts)) w') := Lib.hid (fun w' hb => str_run _ _ _ _ (h1.same fun ad had hne => hb.block _ (h1.lt had hne)))
  have T2 : Hid (∀ w', Below w.heap.size w w' → (convert 24 9 (.slice A2 h.opts.length c2)).run Try.prog w' = .ok (.string (strOfNums h.opts)) w') := Lib.hid (fun w' hb => str_run _ _ _ _ (h2.same fun ad had hne => hb.block _ (h2.lt had hne)))
  clear h1 h2
  obtain ⟨tos, id, flags, ttl, proto, s0, s1, s2, s3, d0, d1, d2, d3, opts⟩ := h
  simp only [hv] at *
  have BB : Hid (Below w.heap.size w ((w.alloc (.cells #[.int .i64 tos, .int .i64 id, .int .i64 flags, .int .i64 ttl, .int .i64 proto, .int .u8 s0, .int .u8 s1, .int .u8 s2, .int .u8 s3, .int .u8 d0, .int .u8 d1, .int .u8 d2, .int .u8 d3, .slice A opts.length c] 26)).alloc (.cells #[.int .i64 tos, .int .i64 id, .int .i64 flags, .int .i64 ttl, .int .i64 proto, .int .u8 s0, .int .u8 s1, .int .u8 s2, .int .u8 s3, .int .u8 d0, .int .u8 d1, .int .u8 d2, .int .u8 d3, .slice A2 opts.length c2] 26))) := Lib.hid (((Below.refl _ _).alloc (Nat.le_refl _) _).alloc (by simp) _)
  have t1 := T1.out _ BB.out
  have t2 := T2.out _ BB.out
  clear T1 T2
  have eqa : ∀ (a b c d : Int) (w : World), (Op.equalIn 10000 23 (.agg #[.int .u8 a, .int .u8 b, .int .u8 c, .int .u8 d]) (.agg #[.int .u8 a, .int .u8 b, .int .u8 c, .int .u8 d])).run Try.prog w = .ok true w := fun a b c d w => by
    obtain ⟨i0, hi, -⟩ := info_parts info_u8
    have := eq_bytes (P := Try.prog) 9998 Try.underlying23 Try.underlying5 hi (by kernel_rfl) (by kernel_rfl) [a, b, c, d] [a, b, c, d] rfl rfl w
    simpa [bv] using this
  go_enter Try.func17, Try.ntmps17
  go_wp2_with fail
  go_ret
  exact ⟨rfl, BB.out⟩
end Go.Proofs.Ytjembpchgemhnaa.Head
