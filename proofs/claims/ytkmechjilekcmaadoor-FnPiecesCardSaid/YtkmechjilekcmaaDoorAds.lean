/-
  Joins the contracts of the generated helpers on structs of two strings. No condition.
-/
import Derived.Test.YtkmechjilekcmaaDoorAd1
import Derived.Test.YtkmechjilekcmaaDoorAd2
import Derived.Test.YtkmechjilekcmaaDoorAd3
namespace Go.Proofs.YtkmechjilekcmaaDoor
end Go.Proofs.YtkmechjilekcmaaDoor
