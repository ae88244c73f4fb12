/-
  No cell of these rows narrows 'for every input' (looked for: loops, veiled, ifaces, maps, wideKeys, modest, calm, conditions, laid).
  DERIVED. THE GIVEN ROWS OF THIS SEAT. 8 by the template 'for every input the law returns true; each argument reads behind the call as it read before'; 0 by the template 'total and deterministic' (their statements: YtjembpchgemhnaaTotals.lean).
  GIVEN WITH THE SEED: the statements are not yours to turn. If you find one false, say at which input.
  Laid BY PROGRAM, IN A SANDBOX (cutbox-rows.mjs): the forced cells as the released guide's own fill.sh prints them over the translation 4df6d07c459f1fba… (all of the seat's roots in one cut). By AI agents, Wed Nov 11 2026. No macro, syntax, notation, axiom, sorry.
-/
import Derived.Test.YtjembpchgemhnaaChecked
import GoSem.Claim
import GoSem.ClaimJoined
import GoSem.ClaimMapViews
import Derived.JoinedTies
import Derived.KernelRfl
namespace Go.Proofs.Ytjembpchgemhnaa
/- THE CELL 'sum', in the pinned program and in every row, IS THE sha256 OF THE DUMP (.gsa) THAT YtjembpchgemhnaaProg.lean LOADS. Nothing in Lean hashes anything: it is a label: what it is worth is what the hold of that sum in a sandbox is worth. -/
noncomputable def Try.pinned : Pinned := { name := "ytjembpchgemhnaa", sum := "4df6d07c459f1fba5e0a75b1111582f1ab7871586615bca01de7753fd17ef68d", checked := Try.checked }
namespace Rows
def none {H : Type} : Left H := { results := [], args := [] }

/-- 'floodgatelaw05.HeadNames': WHATEVER THE INPUT: true; the input reads as it did. -/
def headNamesSpec : ChangeSpec := { name := "headNames", fn := fun _ => fun
  | [] => { results := [.lit (.bool true)], args := [] }
  | _ => none }
def headNamesRow : OpenClaim := { program := "ytjembpchgemhnaa", sum := "4df6d07c459f1fba5e0a75b1111582f1ab7871586615bca01de7753fd17ef68d", func := "floodgate/floodgatelaw05.HeadNames", spec := "headNames", unfollowed := true, recurses := true, apart := false }
def HeadNamesSaid : Prop := headNamesRow.holds Try.pinned (OpenSpec.ofChange headNamesSpec)

/-- ITS FALSE NEIGHBOUR: 'it returns false'. Refute it at one input. -/
def headNamesWrong : ChangeSpec := { name := "headNames", fn := fun _ => fun
  | [] => { results := [.lit (.bool false)], args := [] }
  | _ => none }
def HeadNamesWrongFalsely : Prop := headNamesRow.holds Try.pinned (OpenSpec.ofChange headNamesWrong)

/-- 'floodgatelaw05.HeadSums': WHATEVER THE INPUT: true; the input reads as it did. -/
def headSumsSpec : ChangeSpec := { name := "headSums", fn := fun _ => fun
  | [d] => { results := [.lit (.bool true)], args := [d] }
  | _ => none }
def headSumsRow : OpenClaim := { program := "ytjembpchgemhnaa", sum := "4df6d07c459f1fba5e0a75b1111582f1ab7871586615bca01de7753fd17ef68d", func := "floodgate/floodgatelaw05.HeadSums", spec := "headSums", unfollowed := true, recurses := true, apart := false }
def HeadSumsSaid : Prop := headSumsRow.holds Try.pinned (OpenSpec.ofChange headSumsSpec)

/-- ITS FALSE NEIGHBOUR: 'it returns false'. Refute it at one input. -/
def headSumsWrong : ChangeSpec := { name := "headSums", fn := fun _ => fun
  | [d] => { results := [.lit (.bool false)], args := [d] }
  | _ => none }
def HeadSumsWrongFalsely : Prop := headSumsRow.holds Try.pinned (OpenSpec.ofChange headSumsWrong)

/-- 'floodgatelaw05.HeadMakes': WHATEVER THE INPUT: true; the input reads as it did. -/
def headMakesSpec : ChangeSpec := { name := "headMakes", fn := fun _ => fun
  | [d1, d2] => { results := [.lit (.bool true)], args := [d1, d2] }
  | _ => none }
def headMakesRow : OpenClaim := { program := "ytjembpchgemhnaa", sum := "4df6d07c459f1fba5e0a75b1111582f1ab7871586615bca01de7753fd17ef68d", func := "floodgate/floodgatelaw05.HeadMakes", spec := "headMakes", unfollowed := true, recurses := true, apart := false }
def HeadMakesSaid : Prop := headMakesRow.holds Try.pinned (OpenSpec.ofChange headMakesSpec)

/-- ITS FALSE NEIGHBOUR: 'it returns false'. Refute it at one input. -/
def headMakesWrong : ChangeSpec := { name := "headMakes", fn := fun _ => fun
  | [d1, d2] => { results := [.lit (.bool false)], args := [d1, d2] }
  | _ => none }
def HeadMakesWrongFalsely : Prop := headMakesRow.holds Try.pinned (OpenSpec.ofChange headMakesWrong)

/-- 'floodgatelaw05.HeadBack': WHATEVER THE INPUT: true; the input reads as it did. -/
def headBackSpec : ChangeSpec := { name := "headBack", fn := fun _ => fun
  | [d1, d2, d3] => { results := [.lit (.bool true)], args := [d1, d2, d3] }
  | _ => none }
def headBackRow : OpenClaim := { program := "ytjembpchgemhnaa", sum := "4df6d07c459f1fba5e0a75b1111582f1ab7871586615bca01de7753fd17ef68d", func := "floodgate/floodgatelaw05.HeadBack", spec := "headBack", unfollowed := true, recurses := true, apart := false }
def HeadBackSaid : Prop := headBackRow.holds Try.pinned (OpenSpec.ofChange headBackSpec)

/-- ITS FALSE NEIGHBOUR: 'it returns false'. Refute it at one input. -/
def headBackWrong : ChangeSpec := { name := "headBack", fn := fun _ => fun
  | [d1, d2, d3] => { results := [.lit (.bool false)], args := [d1, d2, d3] }
  | _ => none }
def HeadBackWrongFalsely : Prop := headBackRow.holds Try.pinned (OpenSpec.ofChange headBackWrong)

/-- 'floodgatelaw05.HeadFinds': WHATEVER THE INPUT: true; the input reads as it did. -/
def headFindsSpec : ChangeSpec := { name := "headFinds", fn := fun _ => fun
  | [d1, d2, d3] => { results := [.lit (.bool true)], args := [d1, d2, d3] }
  | _ => none }
def headFindsRow : OpenClaim := { program := "ytjembpchgemhnaa", sum := "4df6d07c459f1fba5e0a75b1111582f1ab7871586615bca01de7753fd17ef68d", func := "floodgate/floodgatelaw05.HeadFinds", spec := "headFinds", unfollowed := true, recurses := true, apart := false }
def HeadFindsSaid : Prop := headFindsRow.holds Try.pinned (OpenSpec.ofChange headFindsSpec)

/-- ITS FALSE NEIGHBOUR: 'it returns false'. Refute it at one input. -/
def headFindsWrong : ChangeSpec := { name := "headFinds", fn := fun _ => fun
  | [d1, d2, d3] => { results := [.lit (.bool false)], args := [d1, d2, d3] }
  | _ => none }
def HeadFindsWrongFalsely : Prop := headFindsRow.holds Try.pinned (OpenSpec.ofChange headFindsWrong)

/-- 'floodgatelaw05.HeadWords': WHATEVER THE INPUT: true; the input reads as it did. -/
def headWordsSpec : ChangeSpec := { name := "headWords", fn := fun _ => fun
  | [d1, d2] => { results := [.lit (.bool true)], args := [d1, d2] }
  | _ => none }
def headWordsRow : OpenClaim := { program := "ytjembpchgemhnaa", sum := "4df6d07c459f1fba5e0a75b1111582f1ab7871586615bca01de7753fd17ef68d", func := "floodgate/floodgatelaw05.HeadWords", spec := "headWords", unfollowed := true, recurses := true, apart := false }
def HeadWordsSaid : Prop := headWordsRow.holds Try.pinned (OpenSpec.ofChange headWordsSpec)

/-- ITS FALSE NEIGHBOUR: 'it returns false'. Refute it at one input. -/
def headWordsWrong : ChangeSpec := { name := "headWords", fn := fun _ => fun
  | [d1, d2] => { results := [.lit (.bool false)], args := [d1, d2] }
  | _ => none }
def HeadWordsWrongFalsely : Prop := headWordsRow.holds Try.pinned (OpenSpec.ofChange headWordsWrong)

/-- 'floodgatelaw05.HeadReads': WHATEVER THE INPUT: true; the input reads as it did. -/
def headReadsSpec : ChangeSpec := { name := "headReads", fn := fun _ => fun
  | [d] => { results := [.lit (.bool true)], args := [d] }
  | _ => none }
def headReadsRow : OpenClaim := { program := "ytjembpchgemhnaa", sum := "4df6d07c459f1fba5e0a75b1111582f1ab7871586615bca01de7753fd17ef68d", func := "floodgate/floodgatelaw05.HeadReads", spec := "headReads", unfollowed := true, recurses := true, apart := false }
def HeadReadsSaid : Prop := headReadsRow.holds Try.pinned (OpenSpec.ofChange headReadsSpec)

/-- ITS FALSE NEIGHBOUR: 'it returns false'. Refute it at one input. -/
def headReadsWrong : ChangeSpec := { name := "headReads", fn := fun _ => fun
  | [d] => { results := [.lit (.bool false)], args := [d] }
  | _ => none }
def HeadReadsWrongFalsely : Prop := headReadsRow.holds Try.pinned (OpenSpec.ofChange headReadsWrong)

/-- 'floodgatelaw05.HeadHops': WHATEVER THE INPUT: true; the input reads as it did. -/
def headHopsSpec : ChangeSpec := { name := "headHops", fn := fun _ => fun
  | [d1, d2] => { results := [.lit (.bool true)], args := [d1, d2] }
  | _ => none }
def headHopsRow : OpenClaim := { program := "ytjembpchgemhnaa", sum := "4df6d07c459f1fba5e0a75b1111582f1ab7871586615bca01de7753fd17ef68d", func := "floodgate/floodgatelaw05.HeadHops", spec := "headHops", unfollowed := true, recurses := true, apart := false }
def HeadHopsSaid : Prop := headHopsRow.holds Try.pinned (OpenSpec.ofChange headHopsSpec)

/-- ITS FALSE NEIGHBOUR: 'it returns false'. Refute it at one input. -/
def headHopsWrong : ChangeSpec := { name := "headHops", fn := fun _ => fun
  | [d1, d2] => { results := [.lit (.bool false)], args := [d1, d2] }
  | _ => none }
def HeadHopsWrongFalsely : Prop := headHopsRow.holds Try.pinned (OpenSpec.ofChange headHopsWrong)

/- THE SECOND FORM. 'bulk': how many values and letters a reading holds, each counted each time it is reached (what is shared counts as often as it is met; a slice's spare places count too). A statement '..UptoSaid' is the law's where the arguments, and the package variables that the reading takes, are together of bulk at most 1048576: NARROWER than '..Said'. Prove '..Said' where nothing that the law and all that it calls make is longer than what came in: it says more and counts as full. Else prove '..UptoSaid'. A law counts once. -/
mutual
def uptoBulk {H : Type} : DataW H → Nat
  | .lit (.string bytes) => bytes.length + 1
  | .lit _ => 1
  | .nil => 1
  | .ptr d => uptoBulk d + 1
  | .slice elems spare => uptoBulkAll elems + uptoBulkAll spare + 1
  | .agg parts => uptoBulkAll parts + 1
  | .iface _ d => uptoBulk d + 1
  | .map entries => uptoBulkEntries entries + 1
  | .held _ => 1
def uptoBulkAll {H : Type} : List (DataW H) → Nat
  | [] => 0
  | d :: r => uptoBulk d + uptoBulkAll r
def uptoBulkEntries {H : Type} : List (Lit × DataW H) → Nat
  | [] => 0
  | x :: r => uptoBulkEntry x + uptoBulkEntries r
def uptoBulkEntry {H : Type} : Lit × DataW H → Nat
  | (.string bytes, d) => bytes.length + uptoBulk d + 1
  | (_, d) => uptoBulk d + 1
 end
def uptoSmall : (H : Type) → List (DataW H) → Bool := fun _ ds => decide (uptoBulkAll ds ≤ 1048576)
def OpenSpec.upto (s : _root_.Go.ChangeSpec) : _root_.Go.OpenSpec := { _root_.Go.OpenSpec.ofChange s with cond := some uptoSmall }

/-- 'floodgatelaw05.HeadNames', WHERE WHAT IT READS IS OF BULK AT MOST 1048576: true; the input reads as it did. -/
def headNamesUptoRow : OpenClaim := { program := "ytjembpchgemhnaa", sum := "4df6d07c459f1fba5e0a75b1111582f1ab7871586615bca01de7753fd17ef68d", func := "floodgate/floodgatelaw05.HeadNames", spec := "headNames", unfollowed := true, recurses := true, apart := false, narrowed := true }
def HeadNamesUptoSaid : Prop := headNamesUptoRow.holds Try.pinned (OpenSpec.upto headNamesSpec)

/-- 'floodgatelaw05.HeadSums', WHERE WHAT IT READS IS OF BULK AT MOST 1048576: true; the input reads as it did. -/
def headSumsUptoRow : OpenClaim := { program := "ytjembpchgemhnaa", sum := "4df6d07c459f1fba5e0a75b1111582f1ab7871586615bca01de7753fd17ef68d", func := "floodgate/floodgatelaw05.HeadSums", spec := "headSums", unfollowed := true, recurses := true, apart := false, narrowed := true }
def HeadSumsUptoSaid : Prop := headSumsUptoRow.holds Try.pinned (OpenSpec.upto headSumsSpec)

/-- 'floodgatelaw05.HeadMakes', WHERE WHAT IT READS IS OF BULK AT MOST 1048576: true; the input reads as it did. -/
def headMakesUptoRow : OpenClaim := { program := "ytjembpchgemhnaa", sum := "4df6d07c459f1fba5e0a75b1111582f1ab7871586615bca01de7753fd17ef68d", func := "floodgate/floodgatelaw05.HeadMakes", spec := "headMakes", unfollowed := true, recurses := true, apart := false, narrowed := true }
def HeadMakesUptoSaid : Prop := headMakesUptoRow.holds Try.pinned (OpenSpec.upto headMakesSpec)

/-- 'floodgatelaw05.HeadBack', WHERE WHAT IT READS IS OF BULK AT MOST 1048576: true; the input reads as it did. -/
def headBackUptoRow : OpenClaim := { program := "ytjembpchgemhnaa", sum := "4df6d07c459f1fba5e0a75b1111582f1ab7871586615bca01de7753fd17ef68d", func := "floodgate/floodgatelaw05.HeadBack", spec := "headBack", unfollowed := true, recurses := true, apart := false, narrowed := true }
def HeadBackUptoSaid : Prop := headBackUptoRow.holds Try.pinned (OpenSpec.upto headBackSpec)

/-- 'floodgatelaw05.HeadFinds', WHERE WHAT IT READS IS OF BULK AT MOST 1048576: true; the input reads as it did. -/
def headFindsUptoRow : OpenClaim := { program := "ytjembpchgemhnaa", sum := "4df6d07c459f1fba5e0a75b1111582f1ab7871586615bca01de7753fd17ef68d", func := "floodgate/floodgatelaw05.HeadFinds", spec := "headFinds", unfollowed := true, recurses := true, apart := false, narrowed := true }
def HeadFindsUptoSaid : Prop := headFindsUptoRow.holds Try.pinned (OpenSpec.upto headFindsSpec)

/-- 'floodgatelaw05.HeadWords', WHERE WHAT IT READS IS OF BULK AT MOST 1048576: true; the input reads as it did. -/
def headWordsUptoRow : OpenClaim := { program := "ytjembpchgemhnaa", sum := "4df6d07c459f1fba5e0a75b1111582f1ab7871586615bca01de7753fd17ef68d", func := "floodgate/floodgatelaw05.HeadWords", spec := "headWords", unfollowed := true, recurses := true, apart := false, narrowed := true }
def HeadWordsUptoSaid : Prop := headWordsUptoRow.holds Try.pinned (OpenSpec.upto headWordsSpec)

/-- 'floodgatelaw05.HeadReads', WHERE WHAT IT READS IS OF BULK AT MOST 1048576: true; the input reads as it did. -/
def headReadsUptoRow : OpenClaim := { program := "ytjembpchgemhnaa", sum := "4df6d07c459f1fba5e0a75b1111582f1ab7871586615bca01de7753fd17ef68d", func := "floodgate/floodgatelaw05.HeadReads", spec := "headReads", unfollowed := true, recurses := true, apart := false, narrowed := true }
def HeadReadsUptoSaid : Prop := headReadsUptoRow.holds Try.pinned (OpenSpec.upto headReadsSpec)

/-- 'floodgatelaw05.HeadHops', WHERE WHAT IT READS IS OF BULK AT MOST 1048576: true; the input reads as it did. -/
def headHopsUptoRow : OpenClaim := { program := "ytjembpchgemhnaa", sum := "4df6d07c459f1fba5e0a75b1111582f1ab7871586615bca01de7753fd17ef68d", func := "floodgate/floodgatelaw05.HeadHops", spec := "headHops", unfollowed := true, recurses := true, apart := false, narrowed := true }
def HeadHopsUptoSaid : Prop := headHopsUptoRow.holds Try.pinned (OpenSpec.upto headHopsSpec)

end Rows
end Go.Proofs.Ytjembpchgemhnaa
