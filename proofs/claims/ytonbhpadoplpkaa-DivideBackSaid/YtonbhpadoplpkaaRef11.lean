import Derived.Test.YtonbhpadoplpkaaRef10
import Derived.Test.YtonbhpadoplpkaaR18
/- The package rosetteref00: NatDiv, NatRoot. -/
namespace Go.Proofs.Ytonbhpadoplpkaa
open Go.RowKit Go.Deep
end Go.Proofs.Ytonbhpadoplpkaa
