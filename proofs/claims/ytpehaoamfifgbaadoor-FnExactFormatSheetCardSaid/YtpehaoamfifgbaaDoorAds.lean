/-
  Joins the contracts of the generated helpers on structs of two strings. No condition.
-/
import Derived.Test.YtpehaoamfifgbaaDoorAd1
import Derived.Test.YtpehaoamfifgbaaDoorAd2
import Derived.Test.YtpehaoamfifgbaaDoorAd3
namespace Go.Proofs.YtpehaoamfifgbaaDoor
end Go.Proofs.YtpehaoamfifgbaaDoor
