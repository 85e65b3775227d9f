import Derived.Test.YtmnfokapdipcdaaRef6
import Derived.Test.YtmnfokapdipcdaaRootP
import Derived.Test.YtmnfokapdipcdaaBox
/- The reference of layer 18: one, power, Root. -/
namespace Go.Proofs.Ytmnfokapdipcdaa
open Go.RowKit Go.Deep
/-- A value is a slice of a number's limbs. -/
def NatAt (w : World) (v : Value) (n : Nat) : Prop := ∃ A l c, v = .slice A l c ∧ l = (limbs n).length ∧ l ≤ c ∧ Lim w w.heap.size A (limbs n)
theorem NatAt.below {w w' : World} {v : Value} {n : Nat} (h : NatAt w v n) (hb : Below w.heap.size w w') : NatAt w' v n := by
  obtain ⟨A, l, c, rfl, hl, hc, hlim⟩ := h
  exact ⟨A, l, c, rfl, hl, hc, (hlim.below hb).more hb.size⟩
theorem NatAt.of_own {w : World} {base : Nat} {v : Value} {n : Nat} (h : Own w base v (limbs n)) : NatAt w v n := by
  obtain ⟨A, c, rfl, hc, hlim, _⟩ := h.form
  exact ⟨A, _, c, rfl, rfl, hc, hlim⟩
theorem NatAt.open {w : World} {v : Value} {n : Nat} (h : NatAt w v n) : ∃ A l c, v = .slice A l c ∧ Hid (l = (limbs n).length) ∧ Hid (l ≤ c) ∧ Hid (Lim w w.heap.size A (limbs n)) ∧ Hid (NatAt w (.slice A l c) n) := by
  obtain ⟨A, l, c, rfl, hl, hc, hlim⟩ := h
  exact ⟨A, l, c, rfl, Lib.hid hl, Lib.hid hc, Lib.hid hlim, Lib.hid ⟨A, l, c, rfl, hl, hc, hlim⟩⟩
theorem NatAt.nil (w : World) : NatAt w (.slice none 0 0) 0 := ⟨none, 0, 0, rfl, by simp [limbs_zero], Nat.le_refl _, by simpa [limbs_zero] using Lim.nil _ _ _⟩
set_option maxRecDepth 100000 in
theorem r18_one (w : World) : Calls Try.prog 90 #[] w fun e w' => ∃ v, e = .returned v ∧ NatAt w' v 1 ∧ Below w.heap.size w w' := by
  go_enter Try.func90, Try.ntmps90
  go_wp2_with fail
  refine (ref_of 1 w (by rw [W64_eq]; omega)).mono ?_
  rintro e w1 ⟨v, rfl, hv, hb⟩
  go_wp2_with fail
  go_ret
  exact ⟨v, rfl, NatAt.of_own hv, hb⟩
/-! Its functions on numbers. -/
section
variable {w : World} {u v : Value} {x y : Nat}
theorem nat_mul (hu : NatAt w u x) (hv : NatAt w v y) (lx : lc x ≤ 137438953472) (ly : lc y ≤ 137438953472) : Calls Try.prog 80 #[u, v] w fun e w' => ∃ r, e = .returned r ∧ NatAt w' r (x * y) ∧ Own w' w.heap.size r (limbs (x * y)) ∧ Below w.heap.size w w' := by
  obtain ⟨A1, l1, c1, rfl, e1, hc1, h1⟩ := hu
  obtain ⟨A2, l2, c2, rfl, e2, hc2, h2⟩ := hv
  refine (ref_mul A1 A2 l1 l2 c1 c2 _ _ w h1 h2 e1 e2 (by rw [e1]; exact lx) (by rw [e2]; exact ly)).mono ?_
  rintro e w' ⟨r, rfl, ho, hb⟩
  rw [val_limbs, val_limbs] at ho
  exact ⟨r, rfl, NatAt.of_own ho, ho, hb⟩
theorem nat_add (hu : NatAt w u x) (hv : NatAt w v y) (lx : lc x ≤ 137438953472) (ly : lc y ≤ 137438953472) : Calls Try.prog 89 #[u, v] w fun e w' => ∃ r, e = .returned r ∧ NatAt w' r (x + y) ∧ Own w' w.heap.size r (limbs (x + y)) ∧ Below w.heap.size w w' := by
  obtain ⟨A1, l1, c1, rfl, e1, hc1, h1⟩ := hu
  obtain ⟨A2, l2, c2, rfl, e2, hc2, h2⟩ := hv
  refine (ref_add A1 A2 l1 l2 c1 c2 _ _ w h1 h2 e1 e2 (by rw [e1]; exact lx) (by rw [e2]; exact ly)).mono ?_
  rintro e w' ⟨r, rfl, ho, hb⟩
  rw [val_limbs, val_limbs] at ho
  exact ⟨r, rfl, NatAt.of_own ho, ho, hb⟩
theorem nat_sub (hu : NatAt w u x) (hv : NatAt w v y) (lx : lc x ≤ 137438953472) (ly : lc y ≤ 137438953472) (hle : y ≤ x) : Calls Try.prog 79 #[u, v] w fun e w' => ∃ r, e = .returned r ∧ NatAt w' r (x - y) ∧ Own w' w.heap.size r (limbs (x - y)) ∧ Below w.heap.size w w' := by
  obtain ⟨A1, l1, c1, rfl, e1, hc1, h1⟩ := hu
  obtain ⟨A2, l2, c2, rfl, e2, hc2, h2⟩ := hv
  refine (ref_sub A1 A2 l1 l2 c1 c2 _ _ w h1 h2 e1 e2 (by rw [e1]; exact lx) (by rw [e2]; exact ly) (by rw [val_limbs, val_limbs]; exact hle)).mono ?_
  rintro e w' ⟨r, rfl, ho, hb⟩
  rw [val_limbs, val_limbs] at ho
  exact ⟨r, rfl, NatAt.of_own ho, ho, hb⟩
theorem nat_up (n : Nat) (hu : NatAt w u x) (lx : lc x ≤ 137438953472) (hn : n ≤ 137438953472) : Calls Try.prog 125 #[u, .int .i64 (n : Int)] w fun e w' => ∃ r, e = .returned r ∧ NatAt w' r (x * 2 ^ n) ∧ Own w' w.heap.size r (limbs (x * 2 ^ n)) ∧ Below w.heap.size w w' := by
  obtain ⟨A1, l1, c1, rfl, e1, hc1, h1⟩ := hu
  refine (ref_up A1 l1 c1 n _ w h1 e1 (by rw [e1]; exact lx) hn).mono ?_
  rintro e w' ⟨r, rfl, ho, hb⟩
  rw [val_limbs] at ho
  exact ⟨r, rfl, NatAt.of_own ho, ho, hb⟩
theorem nat_cmp (hu : NatAt w u x) (hv : NatAt w v y) (lx : lc x ≤ 1099511627776) (ly : lc y ≤ 1099511627776) : Calls Try.prog 86 #[u, v] w fun e w' => e = .returned (.int .i64 (cmpN x y)) ∧ Below w.heap.size w w' := by
  obtain ⟨A1, l1, c1, rfl, e1, hc1, h1⟩ := hu
  obtain ⟨A2, l2, c2, rfl, e2, hc2, h2⟩ := hv
  have k := ref_cmp A1 A2 l1 l2 c1 c2 _ _ w h1 h2 e1 e2 hc1 hc2 (by rw [e1]; exact lx) (by rw [e2]; exact ly)
  rw [val_limbs, val_limbs] at k
  exact k
theorem nat_bits (hu : NatAt w u x) (lx : lc x ≤ 1099511627776) : Calls Try.prog 88 #[u] w fun e w' => e = .returned (.int .i64 (nbits x : Nat)) ∧ Below w.heap.size w w' := by
  obtain ⟨A1, l1, c1, rfl, e1, hc1, h1⟩ := hu
  have k := ref_bits A1 l1 c1 _ w h1 e1 hc1 (by rw [e1]; exact lx)
  rw [val_limbs] at k
  exact k
theorem nat_trim (hu : NatAt w u x) (lx : lc x ≤ 1099511627776) : Calls Try.prog 136 #[u] w fun e w' => ∃ r, e = .returned r ∧ NatAt w' r x ∧ Own w' w.heap.size r (limbs x) ∧ Below w.heap.size w w' := by
  obtain ⟨A1, l1, c1, rfl, e1, hc1, h1⟩ := hu
  refine (ref_trim A1 l1 c1 _ w h1 e1 hc1 (by rw [e1]; exact lx)).mono ?_
  rintro e w' ⟨r, rfl, ho, hb⟩
  rw [val_limbs] at ho
  exact ⟨r, rfl, NatAt.of_own ho, ho, hb⟩
end
/-- What power tells: the power, or something above most, if the power is. -/
structure PowS (x most n p : Nat) : Prop where
  or : p = x ^ n ∨ (most < p ∧ most < x ^ n)
  len : lc p ≤ lc most + lc x + 1
theorem PowS.step {x most i p : Nat} (hp : p = x ^ i) (hm : i = 0 ∨ p ≤ most) : lc (p * x) ≤ lc most + lc x + 1 := by
  have h1 := lc_mul p x
  rcases hm with h0 | hm
  · subst h0
    rw [Nat.pow_zero] at hp
    subst hp
    have := lc_limb (x := 1) (by rw [W64_eq]; omega)
    omega
  · have := lc_mono hm
    omega
theorem pow_more {x most i n : Nat} (h : most < x ^ i) (hi : i ≤ n) (hx : 0 < x) : most < x ^ n := Nat.lt_of_lt_of_le h (Nat.pow_le_pow_right hx hi)
set_option maxHeartbeats 1000000 in
set_option maxRecDepth 100000 in
theorem r18_power (u v : Value) (x most n : Nat) (w : World) (hu : NatAt w u x) (hv : NatAt w v most) (lx : lc x ≤ 34359738368) (lm : lc most ≤ 34359738368) (hn : (n : Int) < 9223372036854775807) :
    Calls Try.prog 87 #[u, .int .i64 (n : Int), v] w fun e w' => ∃ r p, e = .returned r ∧ NatAt w' r p ∧ PowS x most n p ∧ Below w.heap.size w w' := by
  have LX := Lib.hid lx
  have LM := Lib.hid lm
  have HU := Lib.hid hu
  have HV := Lib.hid hv
  clear hu hv lx lm
  go_enter Try.func87, Try.ntmps87
  go_wp2_with fail
  refine (r18_one _).mono ?_
  rintro e w1 ⟨v1, rfl, hv1, hb1⟩
  have HU1 := Lib.hid (HU.out.below hb1)
  have HV1 := Lib.hid (HV.out.below hb1)
  go_wp2_with fail
  go_loopw [7, 8] (fun t7 t8 wr => ∃ i p : Nat, t8 = .int .i64 (i : Int) ∧ i ≤ n ∧ p = x ^ i ∧ (i = 0 ∨ p ≤ most) ∧ NatAt wr t7 p ∧ Below w.heap.size w wr) (fun _ t8 _ => ((n : Int) - intOf t8).toNat)
  case atStart => exact ⟨0, 1, rfl, Nat.zero_le _, (Nat.pow_zero x).symm, .inl rfl, hv1, hb1⟩
  case round =>
    clear hv1 hb1
    obtain ⟨i, p, rfl, hi, hp, hm, hr, hb⟩ := hrel
    have HP := Lib.hid hp
    have HM := Lib.hid hm
    have HR := Lib.hid hr
    have HB := Lib.hid hb
    clear hp hm hr hb
    rcases Nat.lt_or_ge i n with hlt | hge
    · have HLT := Lib.hid hlt
      have hI : (i : Int) < (n : Int) := by omega
      have HUr := Lib.hid (HU.out.below HB.out)
      have HVr := Lib.hid (HV.out.below HB.out)
      have HLP := Lib.hid (PowS.step HP.out HM.out)
      have HLQ := Lib.hid (show lc p ≤ 34359738369 from by
        rcases HM.out with h0 | h0
        · have h1 := HP.out
          subst h0
          rw [Nat.pow_zero] at h1
          subst h1
          have := lc_limb (x := 1) (by rw [W64_eq]; omega)
          omega
        · have := lc_mono h0
          have := LM.out
          omega)
      clear hlt hi
      go_wp2_with fail
      refine (nat_mul HR.out HUr.out (by have := HLQ.out; omega) (by have := LX.out; omega)).mono ?_
      rintro e w2 ⟨r2, rfl, hr2, -, hb2⟩
      have hb2' := HB.out.trans (hb2.mono HB.out.size)
      go_wp2_with fail
      refine (nat_cmp hr2 (HVr.out.below hb2) (by have := HLP.out; have := LX.out; have := LM.out; omega) (by have := LM.out; omega)).mono ?_
      rintro e w3 ⟨rfl, hb3⟩
      have hr3 := hr2.below hb3
      have hb3' := hb2'.trans (hb3.mono hb2'.size)
      have HPX := Lib.hid (show p * x = x ^ (i + 1) from by rw [HP.out, Nat.pow_succ])
      obtain ⟨S, hS⟩ : ∃ S, p * x = S := ⟨_, rfl⟩
      rw [hS] at hr3 ⊢ HPX HLP
      have HR3 := Lib.hid hr3
      have HB3 := Lib.hid hb3'
      clear hr2 hb2 hb2' hb3 hr3 hb3' hS
      rcases Nat.lt_or_ge most S with hgt | hle
      · rw [cmpN_gt hgt]
        have HGT := Lib.hid hgt
        clear hgt
        go_wp2_with fail
        go_ret
        refine ⟨_, S, rfl, HR3.out, ⟨.inr ⟨HGT.out, pow_more (i := i + 1) (by rw [← HPX.out]; exact HGT.out) HLT.out ?_⟩, HLP.out⟩, HB3.out⟩
        rcases Nat.eq_zero_or_pos x with h0 | h0
        · have h1 := HGT.out
          rw [HPX.out, h0, Nat.zero_pow (by omega)] at h1
          omega
        · exact h0
      · have HLE := Lib.hid hle
        have hi1 : (i : Int) ≤ 9223372036854775806 := by omega
        have hi0 : (0 : Int) ≤ (i : Int) := by omega
        have HI := Lib.hid hI
        rcases Nat.lt_or_eq_of_le hle with h | h
        · rw [cmpN_lt h]
          clear hle hI h
          go_wp2_with fail
          have hI := HI.out
          exact ⟨⟨i + 1, S, by go_num, HLT.out, HPX.out, .inr HLE.out, HR3.out, HB3.out⟩, by simp [intOf]; omega⟩
        · rw [cmpN_eq h]
          clear hle hI h
          go_wp2_with fail
          have hI := HI.out
          exact ⟨⟨i + 1, S, by go_num, HLT.out, HPX.out, .inr HLE.out, HR3.out, HB3.out⟩, by simp [intOf]; omega⟩
    · have hI : ¬ (i : Int) < (n : Int) := by omega
      have HE := Lib.hid (show i = n by omega)
      clear hge hi
      go_wp2_with fail
      go_ret
      refine ⟨_, rfl, p, HR.out, ⟨.inl (by rw [← HE.out]; exact HP.out), ?_⟩, HB.out⟩
      rcases HM.out with h0 | h0
      · have h1 := HP.out
        rw [h0, Nat.pow_zero] at h1
        rw [h1]
        have := lc_limb (x := 1) (by rw [W64_eq]; omega)
        omega
      · have := lc_mono h0
        omega
end Go.Proofs.Ytmnfokapdipcdaa
