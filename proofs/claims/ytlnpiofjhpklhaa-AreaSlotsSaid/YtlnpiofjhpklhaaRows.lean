/-
  No cell of these rows narrows 'for every input' (looked for: loops, veiled, ifaces, maps, wideKeys, modest, calm, conditions, laid).
  DERIVED. THE GIVEN ROWS OF THIS SEAT. 4 by the template 'for every input the law returns true; each argument reads behind the call as it read before'; 0 by the template 'total and deterministic' (their statements: YtlnpiofjhpklhaaTotals.lean).
  GIVEN WITH THE SEED: the statements are not yours to turn. If you find one false, say at which input.
  Laid BY PROGRAM, IN A SANDBOX (cutbox-rows.mjs): the forced cells as the released guide's own fill.sh prints them over the translation d9ad15474a983640… (all of the seat's roots in one cut). By AI agents, Wed Nov 11 2026. No macro, syntax, notation, axiom, sorry.
-/
import Derived.Test.YtlnpiofjhpklhaaChecked
import GoSem.Claim
import GoSem.ClaimJoined
import GoSem.ClaimMapViews
import Derived.JoinedTies
import Derived.KernelRfl
namespace Go.Proofs.Ytlnpiofjhpklhaa
/- THE CELL 'sum', in the pinned program and in every row, IS THE sha256 OF THE DUMP (.gsa) THAT YtlnpiofjhpklhaaProg.lean LOADS. Nothing in Lean hashes anything: it is a label: what it is worth is what the hold of that sum in a sandbox is worth. -/
noncomputable def Try.pinned : Pinned := { name := "ytlnpiofjhpklhaa", sum := "d9ad15474a98364078640237bbef094bf671a569dea4005e4781753e389972cd", checked := Try.checked }
namespace Rows
def none {H : Type} : Left H := { results := [], args := [] }

/-- 'floodgatelaw09.AreaNames': WHATEVER THE INPUT: true; the input reads as it did. -/
def areaNamesSpec : ChangeSpec := { name := "areaNames", fn := fun _ => fun
  | [] => { results := [.lit (.bool true)], args := [] }
  | _ => none }
def areaNamesRow : OpenClaim := { program := "ytlnpiofjhpklhaa", sum := "d9ad15474a98364078640237bbef094bf671a569dea4005e4781753e389972cd", func := "floodgate/floodgatelaw09.AreaNames", spec := "areaNames", apart := false }
def AreaNamesSaid : Prop := areaNamesRow.holds Try.pinned (OpenSpec.ofChange areaNamesSpec)

/-- ITS FALSE NEIGHBOUR: 'it returns false'. Refute it at one input. -/
def areaNamesWrong : ChangeSpec := { name := "areaNames", fn := fun _ => fun
  | [] => { results := [.lit (.bool false)], args := [] }
  | _ => none }
def AreaNamesWrongFalsely : Prop := areaNamesRow.holds Try.pinned (OpenSpec.ofChange areaNamesWrong)

/-- 'floodgatelaw09.AreaSlots': WHATEVER THE INPUT: true; the input reads as it did. -/
def areaSlotsSpec : ChangeSpec := { name := "areaSlots", fn := fun _ => fun
  | [d1, d2] => { results := [.lit (.bool true)], args := [d1, d2] }
  | _ => none }
def areaSlotsRow : OpenClaim := { program := "ytlnpiofjhpklhaa", sum := "d9ad15474a98364078640237bbef094bf671a569dea4005e4781753e389972cd", func := "floodgate/floodgatelaw09.AreaSlots", spec := "areaSlots", apart := false }
def AreaSlotsSaid : Prop := areaSlotsRow.holds Try.pinned (OpenSpec.ofChange areaSlotsSpec)

/-- ITS FALSE NEIGHBOUR: 'it returns false'. Refute it at one input. -/
def areaSlotsWrong : ChangeSpec := { name := "areaSlots", fn := fun _ => fun
  | [d1, d2] => { results := [.lit (.bool false)], args := [d1, d2] }
  | _ => none }
def AreaSlotsWrongFalsely : Prop := areaSlotsRow.holds Try.pinned (OpenSpec.ofChange areaSlotsWrong)

/-- 'floodgatelaw09.AreaPlaces': WHATEVER THE INPUT: true; the input reads as it did. -/
def areaPlacesSpec : ChangeSpec := { name := "areaPlaces", fn := fun _ => fun
  | [d1, d2, d3] => { results := [.lit (.bool true)], args := [d1, d2, d3] }
  | _ => none }
def areaPlacesRow : OpenClaim := { program := "ytlnpiofjhpklhaa", sum := "d9ad15474a98364078640237bbef094bf671a569dea4005e4781753e389972cd", func := "floodgate/floodgatelaw09.AreaPlaces", spec := "areaPlaces", apart := false }
def AreaPlacesSaid : Prop := areaPlacesRow.holds Try.pinned (OpenSpec.ofChange areaPlacesSpec)

/-- ITS FALSE NEIGHBOUR: 'it returns false'. Refute it at one input. -/
def areaPlacesWrong : ChangeSpec := { name := "areaPlaces", fn := fun _ => fun
  | [d1, d2, d3] => { results := [.lit (.bool false)], args := [d1, d2, d3] }
  | _ => none }
def AreaPlacesWrongFalsely : Prop := areaPlacesRow.holds Try.pinned (OpenSpec.ofChange areaPlacesWrong)

/-- 'floodgatelaw09.AreaApart': WHATEVER THE INPUT: true; the input reads as it did. -/
def areaApartSpec : ChangeSpec := { name := "areaApart", fn := fun _ => fun
  | [d1, d2] => { results := [.lit (.bool true)], args := [d1, d2] }
  | _ => none }
def areaApartRow : OpenClaim := { program := "ytlnpiofjhpklhaa", sum := "d9ad15474a98364078640237bbef094bf671a569dea4005e4781753e389972cd", func := "floodgate/floodgatelaw09.AreaApart", spec := "areaApart", apart := false }
def AreaApartSaid : Prop := areaApartRow.holds Try.pinned (OpenSpec.ofChange areaApartSpec)

/-- ITS FALSE NEIGHBOUR: 'it returns false'. Refute it at one input. -/
def areaApartWrong : ChangeSpec := { name := "areaApart", fn := fun _ => fun
  | [d1, d2] => { results := [.lit (.bool false)], args := [d1, d2] }
  | _ => none }
def AreaApartWrongFalsely : Prop := areaApartRow.holds Try.pinned (OpenSpec.ofChange areaApartWrong)

/- THE SECOND FORM. 'bulk': how many values and letters a reading holds, each counted each time it is reached (what is shared counts as often as it is met; a slice's spare places count too). A statement '..UptoSaid' is the law's where the arguments, and the package variables that the reading takes, are together of bulk at most 1048576: NARROWER than '..Said'. Prove '..Said' where nothing that the law and all that it calls make is longer than what came in: it says more and counts as full. Else prove '..UptoSaid'. A law counts once. -/
mutual
def uptoBulk {H : Type} : DataW H → Nat
  | .lit (.string bytes) => bytes.length + 1
  | .lit _ => 1
  | .nil => 1
  | .ptr d => uptoBulk d + 1
  | .slice elems spare => uptoBulkAll elems + uptoBulkAll spare + 1
  | .agg parts => uptoBulkAll parts + 1
  | .iface _ d => uptoBulk d + 1
  | .map entries => uptoBulkEntries entries + 1
  | .held _ => 1
def uptoBulkAll {H : Type} : List (DataW H) → Nat
  | [] => 0
  | d :: r => uptoBulk d + uptoBulkAll r
def uptoBulkEntries {H : Type} : List (Lit × DataW H) → Nat
  | [] => 0
  | x :: r => uptoBulkEntry x + uptoBulkEntries r
def uptoBulkEntry {H : Type} : Lit × DataW H → Nat
  | (.string bytes, d) => bytes.length + uptoBulk d + 1
  | (_, d) => uptoBulk d + 1
 end
def uptoSmall : (H : Type) → List (DataW H) → Bool := fun _ ds => decide (uptoBulkAll ds ≤ 1048576)
def OpenSpec.upto (s : _root_.Go.ChangeSpec) : _root_.Go.OpenSpec := { _root_.Go.OpenSpec.ofChange s with cond := some uptoSmall }

/-- 'floodgatelaw09.AreaNames', WHERE WHAT IT READS IS OF BULK AT MOST 1048576: true; the input reads as it did. -/
def areaNamesUptoRow : OpenClaim := { program := "ytlnpiofjhpklhaa", sum := "d9ad15474a98364078640237bbef094bf671a569dea4005e4781753e389972cd", func := "floodgate/floodgatelaw09.AreaNames", spec := "areaNames", apart := false, narrowed := true }
def AreaNamesUptoSaid : Prop := areaNamesUptoRow.holds Try.pinned (OpenSpec.upto areaNamesSpec)

/-- 'floodgatelaw09.AreaSlots', WHERE WHAT IT READS IS OF BULK AT MOST 1048576: true; the input reads as it did. -/
def areaSlotsUptoRow : OpenClaim := { program := "ytlnpiofjhpklhaa", sum := "d9ad15474a98364078640237bbef094bf671a569dea4005e4781753e389972cd", func := "floodgate/floodgatelaw09.AreaSlots", spec := "areaSlots", apart := false, narrowed := true }
def AreaSlotsUptoSaid : Prop := areaSlotsUptoRow.holds Try.pinned (OpenSpec.upto areaSlotsSpec)

/-- 'floodgatelaw09.AreaPlaces', WHERE WHAT IT READS IS OF BULK AT MOST 1048576: true; the input reads as it did. -/
def areaPlacesUptoRow : OpenClaim := { program := "ytlnpiofjhpklhaa", sum := "d9ad15474a98364078640237bbef094bf671a569dea4005e4781753e389972cd", func := "floodgate/floodgatelaw09.AreaPlaces", spec := "areaPlaces", apart := false, narrowed := true }
def AreaPlacesUptoSaid : Prop := areaPlacesUptoRow.holds Try.pinned (OpenSpec.upto areaPlacesSpec)

/-- 'floodgatelaw09.AreaApart', WHERE WHAT IT READS IS OF BULK AT MOST 1048576: true; the input reads as it did. -/
def areaApartUptoRow : OpenClaim := { program := "ytlnpiofjhpklhaa", sum := "d9ad15474a98364078640237bbef094bf671a569dea4005e4781753e389972cd", func := "floodgate/floodgatelaw09.AreaApart", spec := "areaApart", apart := false, narrowed := true }
def AreaApartUptoSaid : Prop := areaApartUptoRow.holds Try.pinned (OpenSpec.upto areaApartSpec)

end Rows
end Go.Proofs.Ytlnpiofjhpklhaa
