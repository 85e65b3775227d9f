import Derived.Test.YtonbhpadoplpkaaRef3
/- The package rosetteref00: short, times, less, long. -/
namespace Go.Proofs.Ytonbhpadoplpkaa
open Go.RowKit Go.Deep
theorem val32_drop_step (xs : List Nat) (k : Nat) (hk : k < xs.length) : val32 (xs.drop k) = xs.getD k 0 + W32 * val32 (xs.drop (k + 1)) := by
  rw [List.drop_eq_getElem_cons hk]
  show xs[k] + W32 * _ = _
  simp [hk]
theorem val32_drop_set (os : List Nat) (k x : Nat) (hk : k < os.length) : val32 ((os.set k x).drop k) = x + W32 * val32 (os.drop (k + 1)) := by
  rw [drop_set_self os k x hk]
  rfl
theorem short_step {D b rest X x s q r : Nat} (h : D * b + rest = X) (hs : s = rest * W32 + x) (hq : s / b = q) (hr : s % b = r) : (q + W32 * D) * b + r = x + W32 * X := by
  have h1 := Nat.div_add_mod s b
  rw [hq, hr, hs, Nat.mul_comm b q] at h1
  rw [← h, Nat.add_mul, Nat.mul_add, Nat.mul_comm rest W32] at *
  rw [Nat.mul_assoc]
  omega
theorem tim_step {P V b cy A x s : Nat} (h : V + cy * P = A * b) (hs : s = x * b + cy) : V + P * (s % W32) + s / W32 * (P * W32) = (A + P * x) * b := by
  have h1 := Nat.div_add_mod s W32
  rw [Nat.add_mul, ← h]
  have e1 : P * x * b = P * (x * b) := Nat.mul_assoc _ _ _
  have e2 : s / W32 * (P * W32) = P * (W32 * (s / W32)) := by ac_rfl
  have e3 : cy * P = P * cy := Nat.mul_comm _ _
  rw [e1, e2, e3]
  rw [Nat.add_assoc, Nat.add_assoc, ← Nat.mul_add, ← Nat.mul_add]
  congr 2
  omega
theorem times_bound {x b cy : Nat} (hx : x < W32) (hb : b < W32) (hc : cy < W32) : x * b + cy < W64 := by
  have h := step_bound (o := 0) hx hb W32_pos hc
  omega
end Go.Proofs.Ytonbhpadoplpkaa
