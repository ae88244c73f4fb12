/-
  No cell of these rows narrows 'for every input' (looked for: loops, veiled, ifaces, maps, wideKeys, modest, calm, conditions, laid).
  DERIVED. THE GIVEN ROWS OF THIS SEAT. 5 by the template 'for every input the law returns true; each argument reads behind the call as it read before'; 0 by the template 'total and deterministic' (their statements: YtliepgmjpbjhfaaTotals.lean).
  GIVEN WITH THE SEED: the statements are not yours to turn. If you find one false, say at which input.
  Laid BY PROGRAM, IN A SANDBOX (cutbox-rows.mjs): the forced cells as the released guide's own fill.sh prints them over the translation fff8c6b3396d10f9… (all of the seat's roots in one cut). By AI agents, Wed Nov 11 2026. No macro, syntax, notation, axiom, sorry.
-/
import Derived.Test.YtliepgmjpbjhfaaChecked
import GoSem.Claim
import GoSem.ClaimJoined
import GoSem.ClaimMapViews
import Derived.JoinedTies
import Derived.KernelRfl
namespace Go.Proofs.Ytliepgmjpbjhfaa
/- THE CELL 'sum', in the pinned program and in every row, IS THE sha256 OF THE DUMP (.gsa) THAT YtliepgmjpbjhfaaProg.lean LOADS. Nothing in Lean hashes anything: it is a label: what it is worth is what the hold of that sum in a sandbox is worth. -/
noncomputable def Try.pinned : Pinned := { name := "ytliepgmjpbjhfaa", sum := "fff8c6b3396d10f93a3ca4a55f364357bda2fac55febd66ac04039585b4f27be", checked := Try.checked }
namespace Rows
def none {H : Type} : Left H := { results := [], args := [] }

/-- 'floodgatelaw20.DrrFair': WHATEVER THE INPUT: true; the input reads as it did. -/
def drrFairSpec : ChangeSpec := { name := "drrFair", fn := fun _ => fun
  | [d1, d2] => { results := [.lit (.bool true)], args := [d1, d2] }
  | _ => none }
def drrFairRow : OpenClaim := { program := "ytliepgmjpbjhfaa", sum := "fff8c6b3396d10f93a3ca4a55f364357bda2fac55febd66ac04039585b4f27be", func := "floodgate/floodgatelaw20.DrrFair", spec := "drrFair", inPlace := ["math/bits.Add64"], apart := false }
def DrrFairSaid : Prop := drrFairRow.holds Try.pinned (OpenSpec.ofChange drrFairSpec)

/-- ITS FALSE NEIGHBOUR: 'it returns false'. Refute it at one input. -/
def drrFairWrong : ChangeSpec := { name := "drrFair", fn := fun _ => fun
  | [d1, d2] => { results := [.lit (.bool false)], args := [d1, d2] }
  | _ => none }
def DrrFairWrongFalsely : Prop := drrFairRow.holds Try.pinned (OpenSpec.ofChange drrFairWrong)

/-- 'floodgatelaw20.DrrTurns': WHATEVER THE INPUT: true; the input reads as it did. -/
def drrTurnsSpec : ChangeSpec := { name := "drrTurns", fn := fun _ => fun
  | [d1, d2] => { results := [.lit (.bool true)], args := [d1, d2] }
  | _ => none }
def drrTurnsRow : OpenClaim := { program := "ytliepgmjpbjhfaa", sum := "fff8c6b3396d10f93a3ca4a55f364357bda2fac55febd66ac04039585b4f27be", func := "floodgate/floodgatelaw20.DrrTurns", spec := "drrTurns", inPlace := ["math/bits.Add64"], apart := false }
def DrrTurnsSaid : Prop := drrTurnsRow.holds Try.pinned (OpenSpec.ofChange drrTurnsSpec)

/-- ITS FALSE NEIGHBOUR: 'it returns false'. Refute it at one input. -/
def drrTurnsWrong : ChangeSpec := { name := "drrTurns", fn := fun _ => fun
  | [d1, d2] => { results := [.lit (.bool false)], args := [d1, d2] }
  | _ => none }
def DrrTurnsWrongFalsely : Prop := drrTurnsRow.holds Try.pinned (OpenSpec.ofChange drrTurnsWrong)

/-- 'floodgatelaw20.DrrRests': WHATEVER THE INPUT: true; the input reads as it did. -/
def drrRestsSpec : ChangeSpec := { name := "drrRests", fn := fun _ => fun
  | [d1, d2, d3] => { results := [.lit (.bool true)], args := [d1, d2, d3] }
  | _ => none }
def drrRestsRow : OpenClaim := { program := "ytliepgmjpbjhfaa", sum := "fff8c6b3396d10f93a3ca4a55f364357bda2fac55febd66ac04039585b4f27be", func := "floodgate/floodgatelaw20.DrrRests", spec := "drrRests", inPlace := ["math/bits.Add64"], apart := false }
def DrrRestsSaid : Prop := drrRestsRow.holds Try.pinned (OpenSpec.ofChange drrRestsSpec)

/-- ITS FALSE NEIGHBOUR: 'it returns false'. Refute it at one input. -/
def drrRestsWrong : ChangeSpec := { name := "drrRests", fn := fun _ => fun
  | [d1, d2, d3] => { results := [.lit (.bool false)], args := [d1, d2, d3] }
  | _ => none }
def DrrRestsWrongFalsely : Prop := drrRestsRow.holds Try.pinned (OpenSpec.ofChange drrRestsWrong)

/-- 'floodgatelaw20.DrrNames': WHATEVER THE INPUT: true; the input reads as it did. -/
def drrNamesSpec : ChangeSpec := { name := "drrNames", fn := fun _ => fun
  | [] => { results := [.lit (.bool true)], args := [] }
  | _ => none }
def drrNamesRow : OpenClaim := { program := "ytliepgmjpbjhfaa", sum := "fff8c6b3396d10f93a3ca4a55f364357bda2fac55febd66ac04039585b4f27be", func := "floodgate/floodgatelaw20.DrrNames", spec := "drrNames", inPlace := ["math/bits.Add64"], unfollowed := true, recurses := true, apart := false }
def DrrNamesSaid : Prop := drrNamesRow.holds Try.pinned (OpenSpec.ofChange drrNamesSpec)

/-- ITS FALSE NEIGHBOUR: 'it returns false'. Refute it at one input. -/
def drrNamesWrong : ChangeSpec := { name := "drrNames", fn := fun _ => fun
  | [] => { results := [.lit (.bool false)], args := [] }
  | _ => none }
def DrrNamesWrongFalsely : Prop := drrNamesRow.holds Try.pinned (OpenSpec.ofChange drrNamesWrong)

/-- 'floodgatelaw20.DrrRuns': WHATEVER THE INPUT: true; the input reads as it did. -/
def drrRunsSpec : ChangeSpec := { name := "drrRuns", fn := fun _ => fun
  | [d] => { results := [.lit (.bool true)], args := [d] }
  | _ => none }
def drrRunsRow : OpenClaim := { program := "ytliepgmjpbjhfaa", sum := "fff8c6b3396d10f93a3ca4a55f364357bda2fac55febd66ac04039585b4f27be", func := "floodgate/floodgatelaw20.DrrRuns", spec := "drrRuns", inPlace := ["math/bits.Add64"], unfollowed := true, recurses := true, apart := false }
def DrrRunsSaid : Prop := drrRunsRow.holds Try.pinned (OpenSpec.ofChange drrRunsSpec)

/-- ITS FALSE NEIGHBOUR: 'it returns false'. Refute it at one input. -/
def drrRunsWrong : ChangeSpec := { name := "drrRuns", fn := fun _ => fun
  | [d] => { results := [.lit (.bool false)], args := [d] }
  | _ => none }
def DrrRunsWrongFalsely : Prop := drrRunsRow.holds Try.pinned (OpenSpec.ofChange drrRunsWrong)

/- THE SECOND FORM. 'bulk': how many values and letters a reading holds, each counted each time it is reached (what is shared counts as often as it is met; a slice's spare places count too). A statement '..UptoSaid' is the law's where the arguments, and the package variables that the reading takes, are together of bulk at most 1048576: NARROWER than '..Said'. Prove '..Said' where nothing that the law and all that it calls make is longer than what came in: it says more and counts as full. Else prove '..UptoSaid'. A law counts once. -/
mutual
def uptoBulk {H : Type} : DataW H → Nat
  | .lit (.string bytes) => bytes.length + 1
  | .lit _ => 1
  | .nil => 1
  | .ptr d => uptoBulk d + 1
  | .slice elems spare => uptoBulkAll elems + uptoBulkAll spare + 1
  | .agg parts => uptoBulkAll parts + 1
  | .iface _ d => uptoBulk d + 1
  | .map entries => uptoBulkEntries entries + 1
  | .held _ => 1
def uptoBulkAll {H : Type} : List (DataW H) → Nat
  | [] => 0
  | d :: r => uptoBulk d + uptoBulkAll r
def uptoBulkEntries {H : Type} : List (Lit × DataW H) → Nat
  | [] => 0
  | x :: r => uptoBulkEntry x + uptoBulkEntries r
def uptoBulkEntry {H : Type} : Lit × DataW H → Nat
  | (.string bytes, d) => bytes.length + uptoBulk d + 1
  | (_, d) => uptoBulk d + 1
 end
def uptoSmall : (H : Type) → List (DataW H) → Bool := fun _ ds => decide (uptoBulkAll ds ≤ 1048576)
def OpenSpec.upto (s : _root_.Go.ChangeSpec) : _root_.Go.OpenSpec := { _root_.Go.OpenSpec.ofChange s with cond := some uptoSmall }

/-- 'floodgatelaw20.DrrFair', WHERE WHAT IT READS IS OF BULK AT MOST 1048576: true; the input reads as it did. -/
def drrFairUptoRow : OpenClaim := { program := "ytliepgmjpbjhfaa", sum := "fff8c6b3396d10f93a3ca4a55f364357bda2fac55febd66ac04039585b4f27be", func := "floodgate/floodgatelaw20.DrrFair", spec := "drrFair", inPlace := ["math/bits.Add64"], apart := false, narrowed := true }
def DrrFairUptoSaid : Prop := drrFairUptoRow.holds Try.pinned (OpenSpec.upto drrFairSpec)

/-- 'floodgatelaw20.DrrTurns', WHERE WHAT IT READS IS OF BULK AT MOST 1048576: true; the input reads as it did. -/
def drrTurnsUptoRow : OpenClaim := { program := "ytliepgmjpbjhfaa", sum := "fff8c6b3396d10f93a3ca4a55f364357bda2fac55febd66ac04039585b4f27be", func := "floodgate/floodgatelaw20.DrrTurns", spec := "drrTurns", inPlace := ["math/bits.Add64"], apart := false, narrowed := true }
def DrrTurnsUptoSaid : Prop := drrTurnsUptoRow.holds Try.pinned (OpenSpec.upto drrTurnsSpec)

/-- 'floodgatelaw20.DrrRests', WHERE WHAT IT READS IS OF BULK AT MOST 1048576: true; the input reads as it did. -/
def drrRestsUptoRow : OpenClaim := { program := "ytliepgmjpbjhfaa", sum := "fff8c6b3396d10f93a3ca4a55f364357bda2fac55febd66ac04039585b4f27be", func := "floodgate/floodgatelaw20.DrrRests", spec := "drrRests", inPlace := ["math/bits.Add64"], apart := false, narrowed := true }
def DrrRestsUptoSaid : Prop := drrRestsUptoRow.holds Try.pinned (OpenSpec.upto drrRestsSpec)

/-- 'floodgatelaw20.DrrNames', WHERE WHAT IT READS IS OF BULK AT MOST 1048576: true; the input reads as it did. -/
def drrNamesUptoRow : OpenClaim := { program := "ytliepgmjpbjhfaa", sum := "fff8c6b3396d10f93a3ca4a55f364357bda2fac55febd66ac04039585b4f27be", func := "floodgate/floodgatelaw20.DrrNames", spec := "drrNames", inPlace := ["math/bits.Add64"], unfollowed := true, recurses := true, apart := false, narrowed := true }
def DrrNamesUptoSaid : Prop := drrNamesUptoRow.holds Try.pinned (OpenSpec.upto drrNamesSpec)

/-- 'floodgatelaw20.DrrRuns', WHERE WHAT IT READS IS OF BULK AT MOST 1048576: true; the input reads as it did. -/
def drrRunsUptoRow : OpenClaim := { program := "ytliepgmjpbjhfaa", sum := "fff8c6b3396d10f93a3ca4a55f364357bda2fac55febd66ac04039585b4f27be", func := "floodgate/floodgatelaw20.DrrRuns", spec := "drrRuns", inPlace := ["math/bits.Add64"], unfollowed := true, recurses := true, apart := false, narrowed := true }
def DrrRunsUptoSaid : Prop := drrRunsUptoRow.holds Try.pinned (OpenSpec.upto drrRunsSpec)

end Rows
end Go.Proofs.Ytliepgmjpbjhfaa
