import Derived.Test.YtonbhpadoplpkaaRef8
/- The package rosetteref00: less. -/
namespace Go.Proofs.Ytonbhpadoplpkaa
open Go.RowKit Go.Deep
theorem val32_split (xs : List Nat) (k : Nat) (hk : k ≤ xs.length) : val32 xs = val32 (xs.take k) + W32 ^ k * val32 (xs.drop k) := by
  have h := val32_append (xs.take k) (xs.drop k)
  rwa [List.take_append_drop, List.length_take, Nat.min_eq_left hk] at h
theorem val32_lt_top {xs ys : List Nat} (h1 : Tiny xs) (hl : xs.length = ys.length) {k : Nat} (hk : k < xs.length) (hd : xs.drop (k + 1) = ys.drop (k + 1)) (hlt : xs.getD k 0 < ys.getD k 0) : val32 xs < val32 ys := by
  rw [val32_split xs k (by omega), val32_split ys k (by omega), val32_drop_step xs k hk, val32_drop_step ys k (by omega), hd]
  have h2 : val32 (xs.take k) < W32 ^ k := by
    have h := val32_lt (h1.take k)
    rwa [List.length_take, Nat.min_eq_left (by omega)] at h
  generalize val32 (ys.drop (k + 1)) = D
  have h3 : W32 ^ k * (xs.getD k 0 + W32 * D) + W32 ^ k ≤ W32 ^ k * (ys.getD k 0 + W32 * D) := step_lt (W32 ^ k) (W32 * D) hlt
  omega
theorem win_get (us : List Nat) (p m j : Nat) (hj : j < m) : ((us.drop p).take m).getD j 0 = us.getD (p + j) 0 := by
  simp [List.getD_eq_getElem?_getD, hj, List.getElem?_drop]
/-- What is left of a window of digits. -/
structure Taken (us us' : List Nat) (p m P : Nat) : Prop where
  len : us'.length = us.length
  tiny : Tiny us'
  low : us'.take p = us.take p
  high : us'.drop (p + m) = us.drop (p + m)
  is : val32 ((us'.drop p).take m) + P = val32 ((us.drop p).take m)
end Go.Proofs.Ytonbhpadoplpkaa
