import Derived.Test.YtonbhpadoplpkaaRef6
import Derived.Test.YtonbhpadoplpkaaRootP
import Derived.Test.YtonbhpadoplpkaaBox
/- The reference of layer 18: one, power, Root. -/
namespace Go.Proofs.Ytonbhpadoplpkaa
open Go.RowKit Go.Deep
/-- A value is a slice of a number's limbs. -/
def NatAt (w : World) (v : Value) (n : Nat) : Prop := ∃ A l c, v = .slice A l c ∧ l = (limbs n).length ∧ l ≤ c ∧ Lim w w.heap.size A (limbs n)
theorem NatAt.below {w w' : World} {v : Value} {n : Nat} (h : NatAt w v n) (hb : Below w.heap.size w w') : NatAt w' v n := by
  obtain ⟨A, l, c, rfl, hl, hc, hlim⟩ := h
  exact ⟨A, l, c, rfl, hl, hc, (hlim.below hb).more hb.size⟩
theorem NatAt.of_own {w : World} {base : Nat} {v : Value} {n : Nat} (h : Own w base v (limbs n)) : NatAt w v n := by
  obtain ⟨A, c, rfl, hc, hlim, _⟩ := h.form
  exact ⟨A, _, c, rfl, rfl, hc, hlim⟩
theorem NatAt.open {w : World} {v : Value} {n : Nat} (h : NatAt w v n) : ∃ A l c, v = .slice A l c ∧ Hid (l = (limbs n).length) ∧ Hid (l ≤ c) ∧ Hid (Lim w w.heap.size A (limbs n)) ∧ Hid (NatAt w (.slice A l c) n) := by
  obtain ⟨A, l, c, rfl, hl, hc, hlim⟩ := h
  exact ⟨A, l, c, rfl, Lib.hid hl, Lib.hid hc, Lib.hid hlim, Lib.hid ⟨A, l, c, rfl, hl, hc, hlim⟩⟩
theorem NatAt.nil (w : World) : NatAt w (.slice none 0 0) 0 := ⟨none, 0, 0, rfl, by simp [limbs_zero], Nat.le_refl _, by simpa [limbs_zero] using Lim.nil _ _ _⟩
/-! Its functions on numbers. -/
section
variable {w : World} {u v : Value} {x y : Nat}
theorem nat_trim (hu : NatAt w u x) (lx : lc x ≤ 1099511627776) : Calls Try.prog 82 #[u] w fun e w' => ∃ r, e = .returned r ∧ NatAt w' r x ∧ Own w' w.heap.size r (limbs x) ∧ Below w.heap.size w w' := by
  obtain ⟨A1, l1, c1, rfl, e1, hc1, h1⟩ := hu
  refine (ref_trim A1 l1 c1 _ w h1 e1 hc1 (by rw [e1]; exact lx)).mono ?_
  rintro e w' ⟨r, rfl, ho, hb⟩
  rw [val_limbs] at ho
  exact ⟨r, rfl, NatAt.of_own ho, ho, hb⟩
end
/-- What power tells: the power, or something above most, if the power is. -/
structure PowS (x most n p : Nat) : Prop where
  or : p = x ^ n ∨ (most < p ∧ most < x ^ n)
  len : lc p ≤ lc most + lc x + 1
theorem PowS.step {x most i p : Nat} (hp : p = x ^ i) (hm : i = 0 ∨ p ≤ most) : lc (p * x) ≤ lc most + lc x + 1 := by
  have h1 := lc_mul p x
  rcases hm with h0 | hm
  · subst h0
    rw [Nat.pow_zero] at hp
    subst hp
    have := lc_limb (x := 1) (by rw [W64_eq]; omega)
    omega
  · have := lc_mono hm
    omega
theorem pow_more {x most i n : Nat} (h : most < x ^ i) (hi : i ≤ n) (hx : 0 < x) : most < x ^ n := Nat.lt_of_lt_of_le h (Nat.pow_le_pow_right hx hi)
end Go.Proofs.Ytonbhpadoplpkaa
