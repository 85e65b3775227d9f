import Derived.Test.YtonbhpadoplpkaaKitI
/- The package rosetteref17: the document's answer for division. -/
namespace Go.Proofs.Ytonbhpadoplpkaa
open Go.RowKit Go.Deep
end Go.Proofs.Ytonbhpadoplpkaa
