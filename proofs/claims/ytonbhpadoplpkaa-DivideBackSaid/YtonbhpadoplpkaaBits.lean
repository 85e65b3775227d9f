/- math/bits: the contracts of Mul64, Len64, LeadingZeros64, Len. -/
import Derived.Test.YtonbhpadoplpkaaMem
import Derived.Test.YtonbhpadoplpkaaShelf
import Derived.Lib.BitFns
namespace Go.Proofs.Ytonbhpadoplpkaa
open Go.RowKit Go.Deep

def mulHi (x y : Nat) : Nat := x * y / W64
def mulLo (x y : Nat) : Nat := x * y % W64
theorem mul_split (x y : Nat) : mulLo x y + W64 * mulHi x y = x * y := Nat.mod_add_div _ _
theorem mulLo_lt (x y : Nat) : mulLo x y < W64 := Nat.mod_lt _ W64_pos
theorem mulHi_lt {x y : Nat} (hx : x < W64) (hy : y < W64) : mulHi x y + 1 < W64 := by
  have hp := W64_ge
  have h1 : x * y ≤ (W64 - 1) * (W64 - 1) := Nat.mul_le_mul (by omega) (by omega)
  have h3 : (W64 - 1) * (W64 - 1) < W64 * (W64 - 1) := Nat.mul_lt_mul_of_pos_right (by omega) (by omega)
  have h2 : mulHi x y < W64 - 1 := Nat.div_lt_of_lt_mul (Nat.lt_of_le_of_lt h1 h3)
  omega
theorem bits_mul64 (x y : Nat) (hx : x < W64) (hy : y < W64) (w : World) :
    Calls Try.prog 77 #[.int .u64 x, .int .u64 y] w fun e w' => e = .returned (.tuple #[.int .u64 ((mulHi x y : Nat) : Int), .int .u64 ((mulLo x y : Nat) : Int)]) ∧ w = w' := by
  unfold mulHi mulLo
  rw [W64_eq] at *
  exact (Try.bits_Mul64 x y hx hy w).mono fun _ _ h => ⟨h.1, h.2.symm⟩

/-- How many bits. -/
def bitLen (x : Nat) : Nat := Lib.bitLen x
theorem bitLen_le64 {x : Nat} (hx : x < W64) : bitLen x ≤ 64 := Lib.bitLen_le x 64 (by omega) (by rw [W64_eq] at hx; exact hx)
theorem bitLen_spec (x : Nat) (hx : x < 2 ^ 64) : x < 2 ^ bitLen x ∧ (x ≠ 0 → 2 ^ bitLen x ≤ 2 * x) := by
  induction x using Nat.strongRecOn with
  | _ x ih =>
    by_cases h0 : x = 0
    · subst h0; exact ⟨by decide, fun h => absurd rfl h⟩
    · have e : bitLen x = 1 + bitLen (x / 2) := Lib.bitLen_half x h0 hx
      obtain ⟨h1, h2⟩ := ih (x / 2) (by omega) (by omega)
      rw [e, Nat.add_comm, Nat.pow_succ]
      refine ⟨by omega, fun _ => ?_⟩
      by_cases h3 : x / 2 = 0
      · have e0 : bitLen (x / 2) = 0 := by rw [h3]; decide
        rw [e0]; omega
      · have := h2 h3; omega
theorem bitLen_pos {x : Nat} (hx : x < 2 ^ 64) (h0 : x ≠ 0) : 1 ≤ bitLen x := by
  have h := (bitLen_spec x hx).1
  rcases Nat.eq_zero_or_pos (bitLen x) with h1 | h1
  · rw [h1] at h; omega
  · exact h1
/-- A limb moved up till its highest bit is set. -/
theorem lifted_ge {y : Nat} (hy : y < W64) (h0 : y ≠ 0) : y * 2 ^ (64 - bitLen y) < W64 ∧ W64 ≤ 2 * (y * 2 ^ (64 - bitLen y)) ∧ 64 - bitLen y ≤ 63 := by
  have hy' : y < 2 ^ 64 := by rw [W64_eq] at hy; exact hy
  obtain ⟨h1, h2⟩ := bitLen_spec y hy'
  have h2 := h2 h0
  have hl := bitLen_le64 hy
  have hp := bitLen_pos hy' h0
  have e : W64 = 2 ^ bitLen y * 2 ^ (64 - bitLen y) := by rw [← Nat.pow_add, show bitLen y + (64 - bitLen y) = 64 by omega, W64_eq]
  have hpos : 0 < 2 ^ (64 - bitLen y) := Nat.pow_pos (by omega)
  refine ⟨?_, ?_, by omega⟩
  · rw [e]; exact Nat.mul_lt_mul_of_pos_right h1 hpos
  · rw [e, ← Nat.mul_assoc]; exact Nat.mul_le_mul_right _ h2
theorem lt_W64 {x : Nat} (hx : x < W64) : (x : Int) ≤ 18446744073709551615 := by rw [W64_eq] at hx; omega
theorem bits_len64 (x : Nat) (hx : x < W64) (w : World) : Calls Try.prog 83 #[.int .u64 x] w fun e w' => e = .returned (.int .i64 (bitLen x : Nat)) ∧ w = w' :=
  (Try.bits_Len64 x w (by omega) (lt_W64 hx)).mono fun _ _ h => ⟨by rw [h.1, Int.toNat_natCast]; rfl, h.2.symm⟩
theorem bits_lz64 (x : Nat) (hx : x < W64) (w : World) : Calls Try.prog 68 #[.int .u64 x] w fun e w' => e = .returned (.int .i64 ((64 - bitLen x : Nat) : Int)) ∧ w = w' :=
  (Try.bits_LeadingZeros64 x w (by omega) (lt_W64 hx)).mono fun _ _ h => ⟨by
    rw [h.1, Int.toNat_natCast, show ((64 - bitLen x : Nat) : Int) = 64 - (bitLen x : Int) by have := bitLen_le64 hx; omega]; rfl, h.2.symm⟩
end Go.Proofs.Ytonbhpadoplpkaa
