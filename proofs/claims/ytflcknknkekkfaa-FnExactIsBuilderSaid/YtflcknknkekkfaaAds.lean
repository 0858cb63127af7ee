/-
  Joins the contracts of the generated helpers on structs of two strings. No condition.
-/
import Derived.Test.YtflcknknkekkfaaAd1
import Derived.Test.YtflcknknkekkfaaAd2
import Derived.Test.YtflcknknkekkfaaAd3
namespace Go.Proofs.Ytflcknknkekkfaa
end Go.Proofs.Ytflcknknkekkfaa
