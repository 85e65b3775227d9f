import Derived.Test.YtonbhpadoplpkaaRef1
/- The package rosetteref00: natural numbers: NatMul, NatAdd, NatSub, NatUp. -/
namespace Go.Proofs.Ytonbhpadoplpkaa
open Go.RowKit Go.Deep
theorem wrap64_in {n : Nat} (h : n < W64) : IntKind.u64.wrap (n : Int) = (n : Int) := by rw [IntKind.wrap_u64]; rw [W64_eq] at h; omega
end Go.Proofs.Ytonbhpadoplpkaa
