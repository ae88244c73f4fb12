/- append onto a literal of no element. General; no conditions beyond the lemma's own hypotheses. -/
import Derived.Test.YtjembpchgemhnaaFgOwn
import Derived.ArgAppend
set_option linter.unusedVariables false
set_option linter.unusedSimpArgs false
namespace Go.Proofs.Ytjembpchgemhnaa.Fg
open Go.RowKit

/-- append onto a literal of no element: no older block is touched. -/
theorem wp_append_fresh {P : Program} {w : World} {o : Oper} {a : Act} {K : Act → World → Prop} {Q : Exit → Act → World → Prop} (s x : Operand) (t : TypeId)
    (ho : o.op = .call { callee := .builtin .append, args := #[s, x], argTypes := #[t, t] })
    (base : Nat) (e : TypeId) (z : Value) (size bytes : Nat) (ht : P.underlying t = some (.slice e)) (hinfo : (P.info? e).map (fun i => (i.zero, i.size, i.bytes)) = some (some z, size, bytes))
    (hzs : z.cells.size = size) (hsz : 0 < size) (hby : 0 < bytes)
    (b : Addr) (hs : a.eval s = .slice (some b) 0 0) (hown : w.ownsRow base e size (.slice (some b) 0 0) 0 [])
    (ad : Addr) (m c : Nat) (news : List Value) (hx : a.eval x = .slice (some ad) m c) (hsrc : Src w (some ad) m c news) (hl : news.length = m * size)
    (hbytes : m * bytes ≤ 140737488355328) (hbase : base ≤ w.heap.size)
    (h : ∀ v' w', w'.ownsRow base e size v' m news → w.grownBy w' none → K (a.put o.dst v') w') : Oper.wp P o a w K Q := by
  obtain ⟨i, hi, hzz⟩ := Option.map_eq_some_iff.1 hinfo
  simp only [Prod.mk.injEq] at hzz
  obtain ⟨hz0, hz1, hz2⟩ := hzz
  by_cases hm : m = 0
  · subst hm
    have hnews : news = [] := List.eq_nil_of_length_eq_zero (by simpa using hl)
    subst hnews
    have hrun : (Builtin.append_ #[t, t] o.type #[.slice (some b) 0 0, .slice (some ad) 0 c]).run P w = .ok (.slice (some b) 0 0) w := by
      simp [Builtin.append_, run_underlying ht, sizeOf, typeInfo, hi, Builtin.lenOf, Builtin.firstCells, storeCells, loadCells, loadCellsFrom]
    unfold Oper.wp
    simp only [execOp, ho, resolve, invoke, builtin, Sem.run_bind, Sem.run_pure, Result.andThen_ok, List.map_toArray, List.map_cons, List.map_nil, hs, hx, hrun]
    exact h _ w hown (World.grownBy.refl _ _)
  · have h63 : 0 + m ≤ maxLen := by
      have := Nat.le_trans (Nat.le_mul_of_pos_right m hby) hbytes
      simp only [maxLen]; omega
    obtain ⟨v', w', hrun, h2, h3⟩ := run_append_arg_grows (P := P) (w := w) t o.type e i z size bytes ht hi hz0 hz1 hz2 hzs hsz b 0 0 [] (by simp) (fun j u hu => by simp at hu) ad m c news hl (hsrc.cells ad rfl) (by omega) h63 (by simpa using hbytes)
    unfold Oper.wp
    simp only [execOp, ho, resolve, invoke, builtin, Sem.run_bind, Sem.run_pure, Result.andThen_ok, List.map_toArray, List.map_cons, List.map_nil, hs, hx, hrun]
    rw [Nat.zero_add, List.nil_append] at h2
    exact h v' w' (own_base h2 hbase) h3
end Go.Proofs.Ytjembpchgemhnaa.Fg
