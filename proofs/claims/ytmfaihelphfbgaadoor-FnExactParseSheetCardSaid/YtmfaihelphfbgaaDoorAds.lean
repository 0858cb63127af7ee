/-
  Joins the contracts of the generated helpers on structs of two strings. No condition.
-/
import Derived.Test.YtmfaihelphfbgaaDoorAd1
import Derived.Test.YtmfaihelphfbgaaDoorAd2
import Derived.Test.YtmfaihelphfbgaaDoorAd3
namespace Go.Proofs.YtmfaihelphfbgaaDoor
end Go.Proofs.YtmfaihelphfbgaaDoor
