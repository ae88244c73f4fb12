/- Law AreaNames of floodgate's area layer: the error and the sizes have their numbers. There are no conditions: the law has no arguments. -/
import Derived.Test.YtlnpiofjhpklhaaPAreaNamesx1
namespace Go.Proofs.Ytlnpiofjhpklhaa.Pure
open Go.RowKit Go.Proofs.Ytlnpiofjhpklhaa.PAreaNames Go.Proofs.YtlnpiofjhpklhaaW.PrintWords Go.Proofs.YtlnpiofjhpklhaaW.PrintLast

/-- YOURS: ∃ k, floodgatelaw09_AreaNames.f k  = some true
What it reaches (each with k first where it has rounds; `.mono`: more rounds tell the same; `.l0`, ..: its loops, with `.mono_l`): area_Segs.f, area_there.f, area_Seg.f, floodgatelaw09_areaAlive.f, floodgatelaw09_AreaNames.f -/
theorem AreaNames : floodgatelaw09_AreaNames.Pure := by
  exact ⟨5, by decide +kernel⟩

end Go.Proofs.Ytlnpiofjhpklhaa.Pure
