/- What is proved: the function that the print tool read out of templelaw0.TempleNames answers true. No conditions. -/
import Derived.Test.YtmjhdhjijbmigaaPTempleNamesx2
namespace Go.Proofs.Ytmjhdhjijbmigaa.Pure
open Go.RowKit Go.Proofs.Ytmjhdhjijbmigaa.PTempleNames Go.Proofs.YtmjhdhjijbmigaaW.PrintWords Go.Proofs.YtmjhdhjijbmigaaW.PrintLast

theorem TempleNames : templelaw0_TempleNames.Pure := by
  unfold templelaw0_TempleNames.Pure
  first
    | exact of_decide_eq_true (by decide +kernel)
    | rfl
    | decide +kernel

end Go.Proofs.Ytmjhdhjijbmigaa.Pure
