/-
  Joins the contracts of the generated helpers on structs of two strings. No condition.
-/
import Derived.Test.YtnamebgfiibchaaAd1
import Derived.Test.YtnamebgfiibchaaAd2
import Derived.Test.YtnamebgfiibchaaAd3
namespace Go.Proofs.Ytnamebgfiibchaa
end Go.Proofs.Ytnamebgfiibchaa
