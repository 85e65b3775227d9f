/- The contracts of package big's sizes (nat.go), on: products. -/
import Derived.Test.YtmnfokapdipcdaaNat
import Derived.Test.YtmnfokapdipcdaaBits
namespace Go.Proofs.Ytmnfokapdipcdaa
open Go.RowKit Go.Deep

theorem limb_mul_bound {x y o c s d : Nat} (hx : x < W64) (hy : y < W64) (ho : o < W64) (hc : c < W64) (h : s + W64 * d = x * y + o + c) : d < W64 := by
  have hp := W64_ge
  rcases Nat.lt_or_ge d W64 with hd | hd
  · exact hd
  · exfalso
    have h1 : x * y ≤ (W64 - 1) * (W64 - 1) := Nat.mul_le_mul (by omega) (by omega)
    have h2 : W64 * W64 ≤ W64 * d := Nat.mul_le_mul_left _ hd
    have h3 : (W64 - 1) * (W64 - 1) + 2 * (W64 - 1) + 1 = W64 * W64 := by
      obtain ⟨v, hv⟩ : ∃ v, W64 = v + 1 := ⟨W64 - 1, by omega⟩
      rw [hv]; simp only [Nat.add_sub_cancel]; grind
    omega

theorem times_step {lo hi o s1 c1 s c2 carry x y : Nat} (h1 : lo + W64 * hi = x * y) (h2 : s1 + W64 * c1 = lo + o + 0) (h3 : s + W64 * c2 = s1 + carry + 0) : s + W64 * (hi + c1 + c2) = x * y + o + carry := by
  rw [Nat.mul_add, Nat.mul_add]; omega

set_option maxHeartbeats 1600000 in
set_option maxRecDepth 100000 in
theorem big_times (A1 A2 : Option Addr) (c1 c2 : Nat) (xs ys : List Nat) (w : World) {B : Nat} (hB : B ≤ w.heap.size) (h1 : Lim w B A1 xs) (h2 : Lim w B A2 ys) (hl : xs.length + ys.length ≤ 1099511627776) :
    Calls Try.prog 124 #[.slice A1 xs.length c1, .slice A2 ys.length c2] w fun e w' => ∃ A c, e = .returned (.slice A (limbs (val xs * val ys)).length c) ∧ (limbs (val xs * val ys)).length ≤ c ∧ Lim w' w'.heap.size A (limbs (val xs * val ys)) ∧ Below w.heap.size w w' := by
  by_cases hx0 : xs.length = 0
  · have e := List.eq_nil_of_length_eq_zero hx0
    subst e
    have HE := Lib.hid (show limbs (val ([] : List Nat) * val ys) = [] by rw [val_nil, Nat.zero_mul, limbs_zero])
    rw [HE.out]
    go_enter Try.func124, Try.ntmps124
    go_wp2_with fail
    go_ret
    exact ⟨none, 0, rfl, by simp, Lim.nil _ _ _, Below.refl _ _⟩
  by_cases hy0 : ys.length = 0
  · have e := List.eq_nil_of_length_eq_zero hy0
    subst e
    have HE := Lib.hid (show limbs (val xs * val ([] : List Nat)) = [] by rw [val_nil, Nat.mul_zero, limbs_zero])
    rw [HE.out]
    have t0 : ((xs.length : Int) == 0) = false := beq_eq_false_iff_ne.2 (by omega)
    go_enter Try.func124, Try.ntmps124
    go_wp2_with fail
    go_ret
    exact ⟨none, 0, rfl, by simp, Lim.nil _ _ _, Below.refl _ _⟩
  have t0 : ((xs.length : Int) == 0) = false := beq_eq_false_iff_ne.2 (by omega)
  have t1 : ((ys.length : Int) == 0) = false := beq_eq_false_iff_ne.2 (by omega)
  have hmk := make_limbs (xs.length + ys.length) (by omega)
  rw [Int.natCast_add] at hmk
  go_enter Try.func124, Try.ntmps124
  go_wp2_with fail
  go_loopw [31] (fun t31 wr => ∃ (i : Nat) (os : List Nat), i ≤ xs.length ∧ os.length = xs.length + ys.length ∧ t31 = .int .i64 (i : Int) ∧ Row wr w.heap.size os ∧ Below w.heap.size w wr ∧ val (os.take (i + ys.length)) = val (xs.take i) * val ys) (fun t31 _ => xs.length - (intOf t31).toNat)
  case atStart =>
    refine ⟨0, List.replicate (xs.length + ys.length) 0, by omega, by simp, rfl, Row.made _ _, (Below.refl _ _).alloc (Nat.le_refl _) _, ?_⟩
    rw [List.take_replicate, val_zeros]; simp
  case round =>
    obtain ⟨i, os0, hi, ho0, rfl, hrow0, hbel0, hval0⟩ := hrel
    have HV0 := Lib.hid hval0
    have HO0 := Lib.hid ho0
    clear hval0 ho0
    by_cases hlt : i < xs.length
    · obtain ⟨ad, rfl, hb, hcell⟩ := (h1.below (hbel0.mono hB)).at_ hlt
      obtain ⟨x, hx⟩ : ∃ x, xs.getD i 0 = x := ⟨_, rfl⟩
      have hxs : x < W64 := hx ▸ h1.small.getD i
      rw [hx] at hcell
      have HX := Lib.hid hx
      clear hx
      go_wp2_with fail
      obtain ⟨wo, hwo⟩ : ∃ wo : World, wo = wr := ⟨_, rfl⟩
      subst hwo
      go_loopw [8, 38] (fun t8 t38 wr => ∃ (k c : Nat) (os : List Nat), k ≤ ys.length ∧ c < W64 ∧ os.length = xs.length + ys.length ∧ t8 = .int .u64 (c : Int) ∧ t38 = .int .i64 (k : Int) ∧ Row wr w.heap.size os ∧ Below w.heap.size w wr ∧ os.drop (i + k) = os0.drop (i + k) ∧ val (os.take (i + k)) + W64 ^ (i + k) * c = val (os0.take (i + k)) + W64 ^ i * (x * val (ys.take k))) (fun _ t38 _ => ys.length - (intOf t38).toNat)
      case atStart => exact ⟨0, 0, os0, by omega, W64_pos, HO0.out, rfl, rfl, hrow0, hbel0, rfl, by simp⟩
      case round =>
        obtain ⟨k, c, os, hk, hc, ho, rfl, rfl, hrow, hbel, hdrop, hval⟩ := hrel
        have HV := Lib.hid hval
        have HO := Lib.hid ho
        have HD := Lib.hid hdrop
        clear hval ho hdrop
        by_cases hlk : k < ys.length
        · obtain ⟨ad2, rfl, hb2, hcell2⟩ := (h2.below (hbel.mono hB)).at_ hlk
          obtain ⟨y, hy⟩ : ∃ y, ys.getD k 0 = y := ⟨_, rfl⟩
          have hys : y < W64 := hy ▸ h2.small.getD k
          rw [hy] at hcell2
          have hcg := hrow.cell (k := i + k) (by rw [HO.out]; omega)
          have hfg := hrow.free (i + k)
          obtain ⟨o, hoo⟩ : ∃ o, os.getD (i + k) 0 = o := ⟨_, rfl⟩
          have hos : o < W64 := hoo ▸ hrow.small.getD (i + k)
          rw [hoo] at hcg
          have hstep := times_step (mul_split x y) (add_split (mulLo x y) o 0) (add_split (addLo (mulLo x y) o 0) c 0)
          have hbd := limb_mul_bound hxs hys hos hc hstep
          have hstep2 : val ((os.set (i + k) (addLo (addLo (mulLo x y) o 0) c 0)).take (i + (k + 1))) + W64 ^ (i + (k + 1)) * (mulHi x y + addHi (mulLo x y) o 0 + addHi (addLo (mulLo x y) o 0) c 0) = val (os0.take (i + (k + 1))) + W64 ^ i * (x * val (ys.take (k + 1))) := by
            have hV := HV.out
            have ho2 : os0.getD (i + k) 0 = o := by
              have := congrArg (fun l => l.getD 0 0) HD.out
              rw [← hoo]; simpa using this.symm
            rw [← Nat.add_assoc, val_take_set os _ _ (by rw [HO.out]; omega), val_take_step os0, val_take_step ys, hy, ho2, Nat.pow_succ]
            rw [Nat.pow_add] at hV ⊢
            generalize val (os.take (i + k)) = a1 at *
            generalize val (os0.take (i + k)) = a2 at *
            generalize val (ys.take k) = a3 at *
            generalize W64 ^ i = P at *
            generalize W64 ^ k = Q at *
            generalize addLo (addLo (mulLo x y) o 0) c 0 = s at *
            generalize mulHi x y + addHi (mulLo x y) o 0 + addHi (addLo (mulLo x y) o 0) c 0 = d at *
            have : P * Q * (s + W64 * d) = P * Q * (x * y + o + c) := by rw [hstep]
            grind
          have hb1 := lt_W64 (x := mulHi x y + addHi (mulLo x y) o 0) (by omega)
          have hb2 := lt_W64 hbd
          rw [Int.natCast_add] at hb1 hb2
          rw [Int.natCast_add] at hb2
          have hset := hrow.set (k := i + k) (x := addLo (addLo (mulLo x y) o 0) c 0) (by rw [HO.out]; omega) (addLo_lt _ _ _)
          have hbel' := hbel.setCell (p := ⟨w.heap.size, i + k, none⟩) (Nat.le_refl _) (.int .u64 (addLo (addLo (mulLo x y) o 0) c 0 : Int))
          have HL := Lib.hid (show (os.set (i + k) (addLo (addLo (mulLo x y) o 0) c 0)).length = xs.length + ys.length by rw [List.length_set, HO.out])
          have HDD := Lib.hid (show (os.set (i + k) (addLo (addLo (mulLo x y) o 0) c 0)).drop (i + (k + 1)) = os0.drop (i + (k + 1)) by
            rw [List.drop_set_of_lt (by omega)]
            have := congrArg (List.drop 1) HD.out
            simpa [Nat.add_assoc] using this)
          have HS := Lib.hid hstep2
          have HY := Lib.hid hy
          have HOO := Lib.hid hoo
          clear hstep2 hstep hy hoo
          have ha1 := add64_run0 (mulLo x y) o
          have ha2 := add64_run0 (addLo (mulLo x y) o 0) c
          go_wp2_with fail
          refine (bits_mul64 x y hxs hys _).mono ?_
          rintro e w1 ⟨rfl, rfl⟩
          go_wp2_with fail
          exact ⟨⟨k + 1, _, _, by omega, hbd, HL.out, by simp only [Int.natCast_add], by go_num, hset, hbel', HDD.out, HS.out⟩, by simp [intOf]; omega⟩
        · obtain rfl : k = ys.length := by omega
          have hcg := hrow.cell (k := i + ys.length) (by rw [HO.out]; omega)
          have hfg := hrow.free (i + ys.length)
          have hset := hrow.set (k := i + ys.length) (x := c) (by rw [HO.out]; omega) hc
          have hbel' := hbel.setCell (p := ⟨w.heap.size, i + ys.length, none⟩) (Nat.le_refl _) (.int .u64 (c : Int))
          have HL := Lib.hid (show (os.set (i + ys.length) c).length = xs.length + ys.length by rw [List.length_set, HO.out])
          have HS := Lib.hid (show val ((os.set (i + ys.length) c).take (i + 1 + ys.length)) = val (xs.take (i + 1)) * val ys by
            have hV := HV.out
            have hV0 := HV0.out
            rw [show i + 1 + ys.length = i + ys.length + 1 by omega, val_take_set os _ _ (by rw [HO.out]; omega), hV, val_take_step xs, HX.out, List.take_length, hV0, Nat.add_mul, Nat.mul_assoc])
          go_wp2_with fail
          exact ⟨⟨i + 1, _, by omega, HL.out, by go_num, hset, hbel', HS.out⟩, by simp [intOf]; omega⟩
    · obtain rfl : i = xs.length := by omega
      have HF := Lib.hid (show val os0 = val xs * val ys by
        have hV := HV0.out
        rwa [List.take_length, List.take_of_length_le (by rw [HO0.out]; omega)] at hV)
      go_wp2_with fail
      rw [← HO0.out]
      refine (big_trim _ _ _ _ (hrow0.lim (B := w.heap.size + 1) (by omega)) (Nat.le_refl _) (by rw [HO0.out]; omega)).mono ?_
      rintro e w1 ⟨rfl, rfl⟩
      rw [HF.out]
      go_wp2_with fail
      go_ret
      have hl3 := limbs_val_le hrow0.small
      rw [HF.out] at hl3
      have hlim := (hrow0.lim (B := w.heap.size + 1) (by omega)).trim.more hrow0.lt
      rw [HF.out] at hlim
      exact ⟨_, _, rfl, hl3, hlim, hbel0⟩

end Go.Proofs.Ytmnfokapdipcdaa
