/-
  Joins the contracts of the generated helpers on structs of two strings. No condition.
-/
import Derived.Test.YtiifpdpejcbjnaaAd1
import Derived.Test.YtiifpdpejcbjnaaAd2
import Derived.Test.YtiifpdpejcbjnaaAd3
namespace Go.Proofs.Ytiifpdpejcbjnaa
end Go.Proofs.Ytiifpdpejcbjnaa
