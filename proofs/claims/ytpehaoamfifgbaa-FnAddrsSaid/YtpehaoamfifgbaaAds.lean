/-
  Joins the contracts of the generated helpers on structs of two strings. No condition.
-/
import Derived.Test.YtpehaoamfifgbaaAd1
import Derived.Test.YtpehaoamfifgbaaAd2
import Derived.Test.YtpehaoamfifgbaaAd3
namespace Go.Proofs.Ytpehaoamfifgbaa
end Go.Proofs.Ytpehaoamfifgbaa
