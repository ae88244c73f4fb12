/-
  DERIVED. GIVEN WITH THE SEED: THE CARDS: each row of YtgpfjeoomaadoaaDoorRows.lean that lists a variable, with what it lists TIED to the program's text (the seventh form; the later family's looks); each row that meets fmt, with fmt's text TOLD by the authors' own Lean function (tested against real Go, not proved from fmt's source: count such statements apart). THE CARD IS WHAT COUNTS. Prove the row's statement (the work); the ties are given (YtgpfjeoomaadoaaDoorTie.lean); close each card by the builder's one call (the guide's Derived/Test/ToyasCard.lean, 'card_holds'). Laid BY PROGRAM, IN A SANDBOX (cutbox-door.mjs). By AI agents, Wed Nov 11 2026. No macro, syntax, notation, axiom, sorry.
-/
import Derived.Test.YtgpfjeoomaadoaaDoorRows
import GoSem.ClaimSeven
namespace Go.Proofs.YtgpfjeoomaadoaaDoor
namespace Rows

/-- THE TIED CARD OF 'floodgatelaw03.CrcBursts'. -/
def crcBurstsCard : Claim7 := { stood := { row := crcBurstsRow, standIns := [], harness := (true, "75be230791ff53a6ccd777d8efb0dfc2dfc13b100478d9e89f2cfa8ceee68e97"), looks := false }, kinds := [], alts := [], laidByText := true, laidKinds := [.data], laidTests := true, laidLooks := .later }
def CrcBurstsCardSaid : Prop := Claim7.holds Tryd.pinned (.plain (OpenSpec.ofChange crcBurstsSpec)) crcBurstsCard

/-- THE TIED CARD OF 'floodgatelaw03.CrcTwice'. -/
def crcTwiceCard : Claim7 := { stood := { row := crcTwiceRow, standIns := [], harness := (true, "75be230791ff53a6ccd777d8efb0dfc2dfc13b100478d9e89f2cfa8ceee68e97"), looks := false }, kinds := [], alts := [], laidByText := true, laidKinds := [.data], laidTests := true, laidLooks := .later }
def CrcTwiceCardSaid : Prop := Claim7.holds Tryd.pinned (.plain (OpenSpec.ofChange crcTwiceSpec)) crcTwiceCard

/-- THE TIED CARD OF 'floodgatelaw03.CrcFinds'. -/
def crcFindsCard : Claim7 := { stood := { row := crcFindsRow, standIns := [], harness := (true, "75be230791ff53a6ccd777d8efb0dfc2dfc13b100478d9e89f2cfa8ceee68e97"), looks := false }, kinds := [], alts := [], laidByText := true, laidKinds := [.data], laidTests := true, laidLooks := .later }
def CrcFindsCardSaid : Prop := Claim7.holds Tryd.pinned (.plain (OpenSpec.ofChange crcFindsSpec)) crcFindsCard

/-- THE SECOND FORM's CARD OF 'floodgatelaw03.CrcBursts'. -/
def crcBurstsUptoCard : Claim7 := { stood := { row := crcBurstsUptoRow, standIns := [], harness := (true, "75be230791ff53a6ccd777d8efb0dfc2dfc13b100478d9e89f2cfa8ceee68e97"), looks := false }, kinds := [], alts := [], laidByText := true, laidKinds := [.data], laidTests := true, laidLooks := .later }
def CrcBurstsUptoCardSaid : Prop := Claim7.holds Tryd.pinned (.plain (OpenSpec.upto crcBurstsSpec)) crcBurstsUptoCard

/-- THE SECOND FORM's CARD OF 'floodgatelaw03.CrcTwice'. -/
def crcTwiceUptoCard : Claim7 := { stood := { row := crcTwiceUptoRow, standIns := [], harness := (true, "75be230791ff53a6ccd777d8efb0dfc2dfc13b100478d9e89f2cfa8ceee68e97"), looks := false }, kinds := [], alts := [], laidByText := true, laidKinds := [.data], laidTests := true, laidLooks := .later }
def CrcTwiceUptoCardSaid : Prop := Claim7.holds Tryd.pinned (.plain (OpenSpec.upto crcTwiceSpec)) crcTwiceUptoCard

/-- THE SECOND FORM's CARD OF 'floodgatelaw03.CrcFinds'. -/
def crcFindsUptoCard : Claim7 := { stood := { row := crcFindsUptoRow, standIns := [], harness := (true, "75be230791ff53a6ccd777d8efb0dfc2dfc13b100478d9e89f2cfa8ceee68e97"), looks := false }, kinds := [], alts := [], laidByText := true, laidKinds := [.data], laidTests := true, laidLooks := .later }
def CrcFindsUptoCardSaid : Prop := Claim7.holds Tryd.pinned (.plain (OpenSpec.upto crcFindsSpec)) crcFindsUptoCard
end Rows
end Go.Proofs.YtgpfjeoomaadoaaDoor
