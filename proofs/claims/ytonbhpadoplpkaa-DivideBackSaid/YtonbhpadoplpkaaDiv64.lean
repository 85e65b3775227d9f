/- math/bits.Div64: two limbs over one. -/
import Derived.Test.YtonbhpadoplpkaaBits
import Derived.Deep.DeepCutAuto
import Derived.Deep.CutBlock
namespace Go.Proofs.Ytonbhpadoplpkaa
open Go.RowKit Go.Deep

/-! ### one digit of 32 bits -/
/-- q is not too small, and what is left fits it. (Y = 2^32 y1 + y0.) -/
def Dig (n d Y y1 q r : Nat) : Prop := q * y1 + r = n ∧ (n * 4294967296 + d) / Y ≤ q ∧ q ≤ 4294967297
theorem dig_split {Y y1 y0 : Nat} (hY : Y = 4294967296 * y1 + y0) (q r n : Nat) (h : q * y1 + r = n) : q * Y + 4294967296 * r = n * 4294967296 + q * y0 := by
  rw [hY, ← h]; grind
theorem dig_lt {n d Y : Nat} (hn : n < Y) (hd : d < 4294967296) : (n * 4294967296 + d) / Y < 4294967296 := by
  refine Nat.div_lt_of_lt_mul ?_
  have := Nat.mul_le_mul_right 4294967296 (show n + 1 ≤ Y from hn)
  omega
theorem dig_start {n d Y y1 y0 : Nat} (hYe : Y = 4294967296 * y1 + y0) (hy0 : y0 < 4294967296) (hn : n < Y) (hY : 9223372036854775808 ≤ Y) (hd : d < 4294967296) : Dig n d Y y1 (n / y1) (n % y1) := by
  have hy1 : 2147483648 ≤ y1 := by omega
  refine ⟨by rw [Nat.mul_comm]; exact Nat.div_add_mod _ _, ?_, ?_⟩
  · refine (Nat.le_div_iff_mul_le (by omega)).2 ?_
    have h1 := Nat.div_mul_le_self (n * 4294967296 + d) Y
    generalize (n * 4294967296 + d) / Y = Q at *
    have h2 : Q * (4294967296 * y1) ≤ Q * Y := Nat.mul_le_mul_left Q (by omega)
    have h3 : Q * (4294967296 * y1) = 4294967296 * (Q * y1) := by grind
    omega
  · exact Nat.le_of_lt_succ (Nat.div_lt_of_lt_mul (by omega))
/-- A guess that is too great: one less. -/
theorem dig_down {n d Y y1 y0 q r : Nat} (hYe : Y = 4294967296 * y1 + y0) (hn : n < Y) (hd : d < 4294967296) (h : Dig n d Y y1 q r) (hq : 4294967296 ≤ q ∨ 4294967296 * r + d < q * y0) : Dig n d Y y1 (q - 1) (r + y1) ∧ q - 1 ≤ 4294967296 ∧ 1 ≤ q := by
  obtain ⟨h1, h2, h3⟩ := h
  have hlt := dig_lt hn hd
  have hs := dig_split hYe q r n h1
  have hQ : (n * 4294967296 + d) / Y < q := by
    rcases hq with hq | hq
    · omega
    · refine Nat.div_lt_of_lt_mul ?_
      rw [Nat.mul_comm Y q]; omega
  clear hs hlt
  unfold Dig
  generalize (n * 4294967296 + d) / Y = Q at *
  refine ⟨⟨?_, by omega, by omega⟩, by omega, by omega⟩
  obtain ⟨p, rfl⟩ : ∃ p, q = p + 1 := ⟨q - 1, by omega⟩
  rw [Nat.add_sub_cancel, ← h1]; grind
theorem dig_done {n d Y y1 y0 q r : Nat} (hYe : Y = 4294967296 * y1 + y0) (h : Dig n d Y y1 q r) (hle : q * y0 ≤ 4294967296 * r + d) (hY : 0 < Y) : q = (n * 4294967296 + d) / Y := by
  obtain ⟨h1, h2, h3⟩ := h
  have hs := dig_split hYe q r n h1
  refine Nat.le_antisymm ?_ h2
  refine (Nat.le_div_iff_mul_le hY).2 ?_
  omega
theorem dig_done' {n d Y y1 y0 q r : Nat} (hYe : Y = 4294967296 * y1 + y0) (hy0 : y0 < 4294967296) (h : Dig n d Y y1 q r) (hq : q ≤ 4294967296) (hr : 4294967296 ≤ r) (hY : 0 < Y) : q = (n * 4294967296 + d) / Y := by
  refine dig_done hYe h ?_ hY
  have h1 : q * y0 ≤ 4294967296 * 4294967296 := Nat.mul_le_mul hq (by omega)
  omega
def Half (r : Nat) : Prop := r < 4294967296

/-! ### both digits -/
theorem div_two' (B W : Nat) (hW : W = B * B) {U V Y : Nat} (hY : 0 < Y) :
    ((U * B + V / B) / Y) * B + (((U * B + V / B) % Y) * B + V % B) / Y = (U * W + V) / Y ∧
    (((U * B + V / B) % Y) * B + V % B) % Y = (U * W + V) % Y := by
  have hd := Nat.div_add_mod (U * B + V / B) Y
  have hv := Nat.div_add_mod V B
  generalize (U * B + V / B) / Y = q at *
  generalize (U * B + V / B) % Y = r at *
  generalize V / B = v1 at *
  generalize V % B = v0 at *
  have e : U * W + V = (r * B + v0) + Y * (q * B) := by
    rw [← hv, hW]
    have : B * (Y * q + r) = B * (U * B + v1) := by rw [hd]
    grind
  rw [e, Nat.add_mul_div_left _ _ hY, Nat.add_mul_mod_self_left]
  exact ⟨Nat.add_comm _ _, rfl⟩
theorem div_two {U V Y : Nat} (hY : 0 < Y) :
    ((U * 4294967296 + V / 4294967296) / Y) * 4294967296 + (((U * 4294967296 + V / 4294967296) % Y) * 4294967296 + V % 4294967296) / Y = (U * W64 + V) / Y ∧
    (((U * 4294967296 + V / 4294967296) % Y) * 4294967296 + V % 4294967296) % Y = (U * W64 + V) % Y :=
  div_two' 4294967296 W64 (by rw [W64_eq]) hY
/-- Moved up: the same quotient; the rest is moved up with it. -/
theorem div_moved (u y s : Nat) (_hy : 0 < y) : (u * 2 ^ s) / (y * 2 ^ s) = u / y ∧ ((u * 2 ^ s) % (y * 2 ^ s)) / 2 ^ s = u % y := by
  have hp : 0 < 2 ^ s := Nat.pow_pos (by omega)
  exact ⟨Nat.mul_div_mul_right _ _ hp, by rw [Nat.mul_mod_mul_right, Nat.mul_div_cancel _ hp]⟩
/-- The two limbs of a number moved up. -/
theorem moved_limbs {hi lo s : Nat} (hs : s ≤ 63) (hlo : lo < W64) (hh : hi * 2 ^ s < W64) :
    (hi * W64 + lo) * 2 ^ s = (hi * 2 ^ s ||| lo / 2 ^ (64 - s)) * W64 + lo * 2 ^ s % W64 ∧ (hi * 2 ^ s ||| lo / 2 ^ (64 - s)) < W64 := by
  have hp : 0 < 2 ^ s := Nat.pow_pos (by omega)
  have e64 : W64 = 2 ^ (64 - s) * 2 ^ s := by rw [← Nat.pow_add, show 64 - s + s = 64 by omega, W64_eq]
  have hlt : lo / 2 ^ (64 - s) < 2 ^ s := by
    refine Nat.div_lt_of_lt_mul ?_
    rw [← e64]; exact hlo
  have hor : hi * 2 ^ s ||| lo / 2 ^ (64 - s) = hi * 2 ^ s + lo / 2 ^ (64 - s) := by
    rw [Nat.mul_comm hi, ← Nat.two_pow_add_eq_or_of_lt hlt]
  have hm : lo * 2 ^ s % W64 = (lo % 2 ^ (64 - s)) * 2 ^ s := by
    rw [e64, Nat.mul_mod_mul_right]
  have hd := Nat.div_add_mod lo (2 ^ (64 - s))
  rw [hor, hm]
  constructor
  · generalize 2 ^ (64 - s) = P at *
    generalize 2 ^ s = R at *
    generalize lo / P = a at *
    generalize lo % P = b at *
    rw [← hd, e64]
    grind
  · have h6 : hi < 2 ^ (64 - s) := by
      rw [e64] at hh
      exact Nat.lt_of_mul_lt_mul_right hh
    have h7 := Nat.mul_le_mul_right (2 ^ s) (show hi + 1 ≤ 2 ^ (64 - s) from h6)
    rw [← e64, Nat.add_mul, Nat.one_mul] at h7
    omega

theorem wrap_u64_nat (n : Nat) : IntKind.u64.wrap (n : Int) = ((n % W64 : Nat) : Int) := by rw [IntKind.wrap_u64, W64_eq]; omega
theorem wrap_u64_in {n : Nat} (h : n < W64) : IntKind.u64.wrap (n : Int) = (n : Int) := by rw [wrap_u64_nat, Nat.mod_eq_of_lt h]
theorem and_mask32 {n : Nat} (h : n < W64) : bits .and .u64 (n : Int) 4294967295 = ((n % 4294967296 : Nat) : Int) := by
  rw [W64_eq] at h
  have h1 := u64_and_nat n 4294967295 h (by omega)
  rwa [show n &&& 4294967295 = n % 4294967296 from Nat.and_two_pow_sub_one_eq_mod n 32] at h1
/-- A difference of two numbers that have run over, that is told as it is. -/
theorem wrap_sub_mod (a b c r : Nat) (h : a + b = c + r) (hr : r < W64) : IntKind.u64.wrap (IntKind.u64.wrap (IntKind.u64.wrap (a : Int) + (b : Int)) - IntKind.u64.wrap (c : Int)) = (r : Int) := by
  rw [W64_eq] at hr
  simp only [IntKind.wrap_u64]
  omega

theorem wrap_rest (n m : Nat) (hn : n < W64) : IntKind.u64.wrap ((n : Int) - IntKind.u64.wrap ((n : Int) / (m : Int) * (m : Int))) = ((n % m : Nat) : Int) := by
  have h1 := Nat.div_add_mod n m
  rw [Nat.mul_comm] at h1
  have h2 : (n : Int) / (m : Int) * (m : Int) = ((n / m * m : Nat) : Int) := by simp
  rw [h2, wrap_u64_in (by omega), show (n : Int) - ((n / m * m : Nat) : Int) = ((n % m : Nat) : Int) by omega, wrap_u64_in (by omega)]
theorem wrap_quo (n m : Nat) (hn : n < W64) : IntKind.u64.wrap ((n : Int) / (m : Int)) = (n : Int) / (m : Int) := by
  have e : (n : Int) / (m : Int) = ((n / m : Nat) : Int) := by simp
  rw [e, wrap_u64_in (Nat.lt_of_le_of_lt (Nat.div_le_self _ _) hn)]
theorem wrap_two (n d q Y r : Nat) (h : n * 4294967296 + d = q * Y + r) (hr : r < W64) :
    IntKind.u64.wrap (IntKind.u64.wrap (IntKind.u64.wrap ((n : Int) * 4294967296) + (d : Int)) - IntKind.u64.wrap ((q : Int) * (Y : Int))) = (r : Int) := by
  have := wrap_sub_mod (n * 4294967296) d (q * Y) r h hr
  rwa [Int.natCast_mul n, Int.natCast_mul q] at this
theorem wrap_half (q y0 P : Nat) (hq : q < 4294967296) (hy : y0 < 4294967296) (hP : q * y0 = P) : IntKind.u64.wrap ((q : Int) * (y0 : Int)) = (P : Int) := by
  have h2 : q * y0 ≤ 4294967295 * 4294967295 := Nat.mul_le_mul (by omega) (by omega)
  rw [← Int.natCast_mul, hP, wrap_u64_in (by rw [W64_eq]; omega)]
theorem halves_of (n : Nat) : ∃ n1 n0 : Nat, n = 4294967296 * n1 + n0 ∧ n0 < 4294967296 ∧ n1 = n / 4294967296 ∧ n0 = n % 4294967296 := ⟨n / 4294967296, n % 4294967296, by omega, by omega, rfl, rfl⟩

set_option maxHeartbeats 4000000 in
set_option maxRecDepth 100000 in
theorem bits_div64_great (hi lo y : Nat) (hlo : lo < W64) (hy : y < W64) (hhi : hi < y) (h0 : hi ≠ 0) (w : World) :
    Calls Try.prog 71 #[.int .u64 hi, .int .u64 lo, .int .u64 y] w fun e w' => e = .returned (.tuple #[.int .u64 (((hi * W64 + lo) / y : Nat) : Int), .int .u64 (((hi * W64 + lo) % y : Nat) : Int)]) ∧ w = w' := by
  obtain ⟨hY1, hY2, hs63⟩ := lifted_ge hy (by omega)
  have hm0 := div_moved (hi * W64 + lo) y (64 - bitLen y) (by omega)
  have hhm : hi * 2 ^ (64 - bitLen y) < y * 2 ^ (64 - bitLen y) := Nat.mul_lt_mul_of_pos_right hhi (Nat.pow_pos (by omega))
  have hml := moved_limbs (hi := hi) (lo := lo) hs63 hlo (by omega)
  have HL := Lib.hid (rfl : 64 - bitLen y = 64 - bitLen y)
  obtain ⟨s, hs⟩ : ∃ s, 64 - bitLen y = s := ⟨_, rfl⟩
  rw [hs] at hY1 hY2 hs63 hm0 hhm hml
  obtain ⟨Y, hYe⟩ : ∃ Y, y * 2 ^ s = Y := ⟨_, rfl⟩
  obtain ⟨U, hUe⟩ : ∃ U, hi * 2 ^ s ||| lo / 2 ^ (64 - s) = U := ⟨_, rfl⟩
  obtain ⟨V, hVe⟩ : ∃ V, lo * 2 ^ s % W64 = V := ⟨_, rfl⟩
  rw [hYe] at hY1 hY2 hm0
  rw [hUe, hVe] at hml
  rw [hml.1] at hm0
  have hVlt : V < W64 := hVe ▸ Nat.mod_lt _ W64_pos
  have hUY : U < Y := by
    rcases Nat.lt_or_ge U Y with h | h
    · exact h
    · exfalso
      have h1 : (hi * W64 + lo) * 2 ^ s < Y * W64 := by
        rw [← hYe, Nat.mul_right_comm]
        refine Nat.mul_lt_mul_of_pos_right ?_ (Nat.pow_pos (by omega))
        have := Nat.mul_le_mul_right W64 (show hi + 1 ≤ y from hhi)
        rw [Nat.add_mul, Nat.one_mul] at this
        omega
      rw [hml.1] at h1
      have := Nat.mul_le_mul_right W64 h
      omega
  have hdt := div_two (U := U) (V := V) (Y := Y) (by omega)
  have HY64 := W64_eq
  have hYge : 9223372036854775808 ≤ Y := by omega
  have hUlt : U < W64 := by omega
  -- the walk's own forms
  have ey : IntKind.u64.wrap ((y : Int) * 2 ^ s) = (Y : Int) := by
    have : (y : Int) * 2 ^ s = ((y * 2 ^ s : Nat) : Int) := by simp
    rw [this, hYe, wrap_u64_in hY1]
  have elo : IntKind.u64.wrap ((lo : Int) * 2 ^ s) = (V : Int) := by
    have : (lo : Int) * 2 ^ s = ((lo * 2 ^ s : Nat) : Int) := by simp
    rw [this, wrap_u64_nat, hVe]
  have ehi : bits .or .u64 (IntKind.u64.wrap ((hi : Int) * 2 ^ s)) ((lo : Int) / 2 ^ (64 - s)) = (U : Int) := by
    have e1 : (hi : Int) * 2 ^ s = ((hi * 2 ^ s : Nat) : Int) := by simp
    have e2 : (lo : Int) / 2 ^ (64 - s) = ((lo / 2 ^ (64 - s) : Nat) : Int) := by simp
    rw [e1, e2, wrap_u64_in (by omega), u64_or_nat _ _ (by omega) (Nat.lt_of_le_of_lt (Nat.div_le_self _ _) (by omega)), hUe]
  obtain ⟨d1, d0, hVS, hd0, hd1e, hd0e⟩ := halves_of V
  obtain ⟨y1, y0, hYS, hy0, hy1e, hy0e⟩ := halves_of Y
  rw [← hd1e, ← hd0e] at hdt
  have rV1 : (V : Int) / 4294967296 = (d1 : Int) := by omega
  have rY1 : (Y : Int) / 4294967296 = (y1 : Int) := by omega
  have ey0 := and_mask32 hY1
  have ev0 := and_mask32 hVlt
  rw [← hy0e] at ey0
  rw [← hd0e] at ev0
  have hd1 : d1 < 4294967296 := by omega
  have hy1 : y1 < 4294967296 := by omega
  have by1 : (2147483648 : Int) ≤ (y1 : Int) := by omega
  have bd1 : (d1 : Int) < 4294967296 := by omega
  have bd0 : (d0 : Int) < 4294967296 := by omega
  have by0 : (y0 : Int) < 4294967296 := by omega
  have by1' : (y1 : Int) < 4294967296 := by omega
  have bh := lt_W64 (x := hi) (by omega)
  have bl := lt_W64 hlo
  have bY := lt_W64 hy
  have t0 : ((y : Int) == 0) = false := beq_eq_false_iff_ne.2 (by omega)
  have t1 : ((hi : Int) == 0) = false := beq_eq_false_iff_ne.2 (by omega)
  have t2 : ¬ (y : Int) ≤ (hi : Int) := by omega
  have bY2 := lt_W64 hY1
  have bU2 := lt_W64 hUlt
  have bV2 := lt_W64 hVlt
  obtain ⟨q1, hq1⟩ : ∃ q1, q1 = (U * 4294967296 + d1) / Y := ⟨_, rfl⟩
  obtain ⟨R1, hr1⟩ : ∃ R1, R1 = (U * 4294967296 + d1) % Y := ⟨_, rfl⟩
  have hR1 : R1 < Y := hr1 ▸ Nat.mod_lt _ (by omega)
  have hR1W : R1 < W64 := by omega
  have bR1 := lt_W64 hR1W
  have hqr : U * 4294967296 + d1 = q1 * Y + R1 := by rw [hq1, hr1, Nat.mul_comm _ Y]; exact (Nat.div_add_mod _ _).symm
  obtain ⟨q0, hq0⟩ : ∃ q0, q0 = (R1 * 4294967296 + d0) / Y := ⟨_, rfl⟩
  obtain ⟨R0, hr0⟩ : ∃ R0, R0 = (R1 * 4294967296 + d0) % Y := ⟨_, rfl⟩
  have hR0W : R0 < W64 := Nat.lt_trans (hr0 ▸ Nat.mod_lt _ (by omega)) hY1
  have hqr0 : R1 * 4294967296 + d0 = q0 * Y + R0 := by rw [hq0, hr0, Nat.mul_comm _ Y]; exact (Nat.div_add_mod _ _).symm
  have hq1lt : q1 < 4294967296 := by rw [hq1]; exact dig_lt hUY hd1
  have hq0lt : q0 < 4294967296 := by rw [hq0]; exact dig_lt hR1 hd0
  have bq1 : (q1 : Int) < 4294967296 := by omega
  have bq0 : (q0 : Int) < 4294967296 := by omega
  rw [← hr1, ← hq1, ← hq0, ← hr0] at hdt
  have e15 := wrap_quo U y1 hUlt
  have e16 := wrap_rest U y1 hUlt
  have e17 := wrap_two U d1 q1 Y R1 hqr hR1W
  have e18 := wrap_quo R1 y1 hR1W
  have e19 := wrap_rest R1 y1 hR1W
  have e20 := wrap_two R1 d0 q0 Y R0 hqr0 hR0W
  have HFIN := Lib.hid (show q1 * 4294967296 + q0 = (hi * W64 + lo) / y ∧ R0 / 2 ^ s = (hi * W64 + lo) % y by rw [hdt.1, hdt.2]; exact hm0)
  have HQ1 := Lib.hid hq1
  have HQ0 := Lib.hid hq0
  have HYS := Lib.hid hYS
  have HS := Lib.hid hs
  replace hd0 := Lib.hid hd0
  replace hd1 := Lib.hid hd1
  replace hy0 := Lib.hid hy0
  replace hy1 := Lib.hid hy1
  have hYpos : 0 < Y := by omega
  replace hYge := Lib.hid hYge
  rw [← HFIN.out.1, ← HFIN.out.2]
  clear hq1 hr1 hqr hq0 hr0 hqr0 hq1lt hq0lt hdt hVS hYS hd1e hd0e hy1e hy0e hm0 hs hml hYe hUe hVe HY64 hhm HL hY2 hR1W hR0W hVlt hUlt hY1
  go_enter Try.func71, Try.ntmps71
  go_wp2_with fail
  refine (bits_lz64 y hy _).mono ?_
  rintro e w1 ⟨rfl, rfl⟩
  rw [HS.out]
  go_upto_block 0 with (fail)
  go_cut [15] (fun t15 wx => w = wx ∧ t15 = .int .u64 (q1 : Int))
  case first =>
    go_wp2_with fail
    go_loop [15, 16] (fun t15 t16 => ∃ q r : Nat, t15 = .int .u64 (q : Int) ∧ t16 = .int .u64 (r : Int) ∧ Dig U d1 Y y1 q r ∧ Half r) (fun t15 _ => (intOf t15).toNat)
    case atStart => exact ⟨U / y1, U % y1, by simp, by simp, dig_start HYS.out hy0.out hUY hYge.out hd1.out, show _ < _ from Nat.lt_trans (Nat.mod_lt _ (by omega)) hy1.out⟩
    case round =>
      obtain ⟨q, r, rfl, rfl, hdig, hr⟩ := hrel
      have HR := Lib.hid (show r < 4294967296 from hr)
      have hr' : (r : Int) < 4294967296 := by have := HR.out; omega
      have HD := Lib.hid hdig
      clear hdig hr
      by_cases hq : 4294967296 ≤ q
      · have h3 := dig_down HYS.out hUY hd1.out HD.out (.inl hq)
        have hq1' : 1 ≤ q := h3.2.2
        have hq' : (4294967296 : Int) ≤ (q : Int) := by omega
        have hqb : (q : Int) ≤ 4294967297 := by have := HD.out.2.2; omega
        have H3 := Lib.hid h3
        clear h3 hq
        by_cases hr2 : 4294967296 ≤ r + y1
        · have HF := Lib.hid (dig_done' HYS.out hy0.out H3.out.1 H3.out.2.1 hr2 (by omega))
          have hr3 : (4294967296 : Int) ≤ (r : Int) + (y1 : Int) := by omega
          clear hr2
          go_wp2_with fail
          go_meet
          exact ⟨rfl, by rw [HQ1.out, ← HF.out]; congr 1; omega⟩
        · have hr3 : decide ((4294967296 : Int) ≤ (r : Int) + (y1 : Int)) = false := by simp; omega
          have HR2 := Lib.hid hr2
          clear hr2
          go_wp2_with fail
          exact ⟨⟨q - 1, r + y1, by congr 1; omega, by congr 1, H3.out.1, show _ < _ by have := HR2.out; omega⟩, by simp [intOf]; omega⟩
      · obtain ⟨P, hP⟩ : ∃ P, q * y0 = P := ⟨_, rfl⟩
        have eP : IntKind.u64.wrap ((q : Int) * (y0 : Int)) = (P : Int) := wrap_half q y0 P (by omega) hy0.out hP
        have HP := Lib.hid hP
        have hq' : (q : Int) < 4294967296 := by omega
        clear hP hq
        by_cases hgt : 4294967296 * r + d1 < P
        · have h3 := dig_down HYS.out hUY hd1.out HD.out (.inr (by rw [HP.out]; exact hgt))
          have hq1' : 1 ≤ q := h3.2.2
          have hgt' : 4294967296 * (r : Int) + (d1 : Int) < (P : Int) := by omega
          have H3 := Lib.hid h3
          clear h3 hgt
          by_cases hr2 : 4294967296 ≤ r + y1
          · have HF := Lib.hid (dig_done' HYS.out hy0.out H3.out.1 H3.out.2.1 hr2 (by omega))
            have hr3 : (4294967296 : Int) ≤ (r : Int) + (y1 : Int) := by omega
            clear hr2
            go_wp2_with fail
            go_meet
            exact ⟨rfl, by rw [HQ1.out, ← HF.out]; congr 1; omega⟩
          · have hr3 : decide ((4294967296 : Int) ≤ (r : Int) + (y1 : Int)) = false := by simp; omega
            have HR2 := Lib.hid hr2
            clear hr2
            go_wp2_with fail
            exact ⟨⟨q - 1, r + y1, by congr 1; omega, by congr 1, H3.out.1, show _ < _ by have := HR2.out; omega⟩, by simp [intOf]; omega⟩
        · have HF := Lib.hid (dig_done HYS.out HD.out (by rw [HP.out]; omega) (by omega))
          obtain ⟨S, hS⟩ : ∃ S : Nat, 4294967296 * (r : Int) + (d1 : Int) = (S : Int) := ⟨4294967296 * r + d1, by simp⟩
          have hgt' : decide (S < P) = false := by simp; omega
          have hq2 : decide ((4294967296 : Int) ≤ (q : Int)) = false := by simp; omega
          clear hgt
          go_wp2_with fail
          go_meet
          exact ⟨rfl, by rw [HQ1.out, ← HF.out]⟩
  case rest =>
    obtain ⟨rfl, rfl⟩ := hcut
    go_upto_block 2 with (fail)
    go_cut [18] (fun t15 wx => w = wx ∧ t15 = .int .u64 (q0 : Int))
    case first =>
      go_wp2_with fail
      go_loop [18, 16] (fun t15 t16 => ∃ q r : Nat, t15 = .int .u64 (q : Int) ∧ t16 = .int .u64 (r : Int) ∧ Dig R1 d0 Y y1 q r ∧ Half r) (fun t15 _ => (intOf t15).toNat)
      case atStart => exact ⟨R1 / y1, R1 % y1, by simp, by simp, dig_start HYS.out hy0.out hR1 hYge.out hd0.out, show _ < _ from Nat.lt_trans (Nat.mod_lt _ (by omega)) hy1.out⟩
      case round =>
        obtain ⟨q, r, rfl, rfl, hdig, hr⟩ := hrel
        have HR := Lib.hid (show r < 4294967296 from hr)
        have hr' : (r : Int) < 4294967296 := by have := HR.out; omega
        have HD := Lib.hid hdig
        clear hdig hr
        by_cases hq : 4294967296 ≤ q
        · have h3 := dig_down HYS.out hR1 hd0.out HD.out (.inl hq)
          have hq1' : 1 ≤ q := h3.2.2
          have hq' : (4294967296 : Int) ≤ (q : Int) := by omega
          have hqb : (q : Int) ≤ 4294967297 := by have := HD.out.2.2; omega
          have H3 := Lib.hid h3
          clear h3 hq
          by_cases hr2 : 4294967296 ≤ r + y1
          · have HF := Lib.hid (dig_done' HYS.out hy0.out H3.out.1 H3.out.2.1 hr2 (by omega))
            have hr3 : (4294967296 : Int) ≤ (r : Int) + (y1 : Int) := by omega
            clear hr2
            go_wp2_with fail
            go_meet
            exact ⟨rfl, by rw [HQ0.out, ← HF.out]; congr 1; omega⟩
          · have hr3 : decide ((4294967296 : Int) ≤ (r : Int) + (y1 : Int)) = false := by simp; omega
            have HR2 := Lib.hid hr2
            clear hr2
            go_wp2_with fail
            exact ⟨⟨q - 1, r + y1, by congr 1; omega, by congr 1, H3.out.1, show _ < _ by have := HR2.out; omega⟩, by simp [intOf]; omega⟩
        · obtain ⟨P, hP⟩ : ∃ P, q * y0 = P := ⟨_, rfl⟩
          have eP : IntKind.u64.wrap ((q : Int) * (y0 : Int)) = (P : Int) := wrap_half q y0 P (by omega) hy0.out hP
          have HP := Lib.hid hP
          have hq' : (q : Int) < 4294967296 := by omega
          clear hP hq
          by_cases hgt : 4294967296 * r + d0 < P
          · have h3 := dig_down HYS.out hR1 hd0.out HD.out (.inr (by rw [HP.out]; exact hgt))
            have hq1' : 1 ≤ q := h3.2.2
            have hgt' : 4294967296 * (r : Int) + (d0 : Int) < (P : Int) := by omega
            have H3 := Lib.hid h3
            clear h3 hgt
            by_cases hr2 : 4294967296 ≤ r + y1
            · have HF := Lib.hid (dig_done' HYS.out hy0.out H3.out.1 H3.out.2.1 hr2 (by omega))
              have hr3 : (4294967296 : Int) ≤ (r : Int) + (y1 : Int) := by omega
              clear hr2
              go_wp2_with fail
              go_meet
              exact ⟨rfl, by rw [HQ0.out, ← HF.out]; congr 1; omega⟩
            · have hr3 : decide ((4294967296 : Int) ≤ (r : Int) + (y1 : Int)) = false := by simp; omega
              have HR2 := Lib.hid hr2
              clear hr2
              go_wp2_with fail
              exact ⟨⟨q - 1, r + y1, by congr 1; omega, by congr 1, H3.out.1, show _ < _ by have := HR2.out; omega⟩, by simp [intOf]; omega⟩
          · have HF := Lib.hid (dig_done HYS.out HD.out (by rw [HP.out]; omega) (by omega))
            obtain ⟨S, hS⟩ : ∃ S : Nat, 4294967296 * (r : Int) + (d0 : Int) = (S : Int) := ⟨4294967296 * r + d0, by simp⟩
            have hgt' : decide (S < P) = false := by simp; omega
            have hq2 : decide ((4294967296 : Int) ≤ (q : Int)) = false := by simp; omega
            clear hgt
            go_wp2_with fail
            go_meet
            exact ⟨rfl, by rw [HQ0.out, ← HF.out]⟩
    case rest =>
      obtain ⟨rfl, rfl⟩ := hcut
      go_wp2_with fail
      go_ret2
      exact ⟨by simp, rfl⟩
end Go.Proofs.Ytonbhpadoplpkaa
