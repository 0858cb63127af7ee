/-
  Joins the contracts of the generated helpers on structs of two strings. No condition.
-/
import Derived.Test.YtipfhedbeeabdaaAd1
import Derived.Test.YtipfhedbeeabdaaAd2
import Derived.Test.YtipfhedbeeabdaaAd3
namespace Go.Proofs.Ytipfhedbeeabdaa
end Go.Proofs.Ytipfhedbeeabdaa
