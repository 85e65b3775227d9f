/- The contracts of package big's sizes (nat.go), on: moved down. -/
import Derived.Test.YtmnfokapdipcdaaNat3
import Derived.BigRegion
import Derived.StillTailTactics
import Derived.Deep.DeepCutAuto
namespace Go.Proofs.Ytmnfokapdipcdaa
open Go.RowKit Go.Deep

/-! ### right -/
/-- One limb of what is moved down by s bits (below 64). -/
theorem shr_step {x y s : Nat} (hx : x < W64) (hs : s < 64) :
    x / 2 ^ s + y % 2 ^ s * 2 ^ (64 - s) < W64 ∧ (x / 2 ^ s + y % 2 ^ s * 2 ^ (64 - s)) * 2 ^ s + x % 2 ^ s = x + W64 * (y % 2 ^ s) ∧ (x / 2 ^ s ||| y * 2 ^ (64 - s) % W64) = x / 2 ^ s + y % 2 ^ s * 2 ^ (64 - s) := by
  have e64 : W64 = 2 ^ (64 - s) * 2 ^ s := by rw [← Nat.pow_add, show 64 - s + s = 64 by omega, W64_two]
  have hp : 0 < 2 ^ s := Nat.pow_pos (by omega)
  have hm : y * 2 ^ (64 - s) % W64 = 2 ^ (64 - s) * (y % 2 ^ s) := by rw [e64, Nat.mul_comm (2 ^ (64 - s)) (2 ^ s), Nat.mul_mod_mul_right, Nat.mul_comm]
  have h4 : x / 2 ^ s < 2 ^ (64 - s) := Nat.div_lt_of_lt_mul (by rw [Nat.mul_comm, ← e64]; exact hx)
  have hor := Nat.two_pow_add_eq_or_of_lt h4 (y % 2 ^ s)
  have hml := Nat.mod_lt y hp
  have hd := Nat.div_add_mod x (2 ^ s)
  refine ⟨?_, ?_, by rw [hm, Nat.or_comm, ← hor, Nat.mul_comm (y % 2 ^ s), Nat.add_comm]⟩
  · have h5 := Nat.mul_le_mul_left (2 ^ (64 - s)) (show y % 2 ^ s + 1 ≤ 2 ^ s from hml)
    rw [Nat.mul_add, Nat.mul_one, ← e64, Nat.mul_comm (2 ^ (64 - s)) (y % 2 ^ s)] at h5
    omega
  · generalize 2 ^ (64 - s) = P at *
    generalize 2 ^ s = R at *
    generalize x / R = a at *
    generalize x % R = b at *
    rw [← hd, e64]
    grind
/-- What is cut off by s bits: just if the lost bits, moved to the top, are not nought. -/
theorem lost_bits {x s : Nat} (hs : s < 64) : (x * 2 ^ (64 - s) % W64 = 0) ↔ x % 2 ^ s = 0 := by
  have e64 : W64 = 2 ^ s * 2 ^ (64 - s) := by rw [← Nat.pow_add, show s + (64 - s) = 64 by omega, W64_two]
  have hp : 0 < 2 ^ (64 - s) := Nat.pow_pos (by omega)
  rw [e64, Nat.mul_mod_mul_right]
  constructor
  · intro h
    rcases Nat.mul_eq_zero.1 h with h | h
    · exact h
    · omega
  · intro h; rw [h, Nat.zero_mul]

/-- Is something cut off? -/
def lostB (v n : Nat) : Bool := decide (v % 2 ^ n ≠ 0)
/-- What is left when whole limbs and then bits are cut off. -/
theorem cut_off {xs : List Nat} (hs : Small xs) {m s : Nat} (hm : m ≤ xs.length) :
    val xs / (W64 ^ m * 2 ^ s) = val (xs.drop m) / 2 ^ s ∧ (val xs % (W64 ^ m * 2 ^ s) = 0 ↔ val (xs.take m) = 0 ∧ val (xs.drop m) % 2 ^ s = 0) := by
  have h1 := val_split xs m hm
  have h2 := val_lt (hs.take m)
  rw [List.length_take, Nat.min_eq_left hm] at h2
  have hp : 0 < W64 ^ m := Nat.pow_pos W64_pos
  generalize val (xs.take m) = t at *
  generalize val (xs.drop m) = D at *
  generalize W64 ^ m = P at *
  have hq : val xs / P = D := by rw [h1, Nat.add_mul_div_left _ _ hp, Nat.div_eq_of_lt h2, Nat.zero_add]
  have hr : val xs % P = t := by rw [h1, Nat.add_mul_mod_self_left, Nat.mod_eq_of_lt h2]
  refine ⟨by rw [← Nat.div_div_eq_div_mul, hq], ?_⟩
  rw [Nat.mod_mul, hr, hq]
  constructor
  · intro h
    refine ⟨by omega, ?_⟩
    rcases Nat.mul_eq_zero.1 (show P * (D % 2 ^ s) = 0 by omega) with h3 | h3
    · omega
    · exact h3
  · rintro ⟨h3, h4⟩; rw [h3, h4]; simp

set_option maxHeartbeats 1600000 in
set_option maxRecDepth 100000 in
theorem big_right (A1 : Option Addr) (c1 : Nat) (xs : List Nat) (n : Nat) (w : World) {B : Nat} (hB : B ≤ w.heap.size) (h1 : Lim w B A1 xs) (hc : xs.length ≤ c1) (hl : xs.length ≤ 1099511627776) (hn : n < W64) :
    Calls Try.prog 149 #[.slice A1 xs.length c1, .int .u64 (n : Int)] w fun e w' => ∃ A c, e = .returned (.tuple #[.slice A (limbs (val xs / 2 ^ n)).length c, .bool (lostB (val xs) n)]) ∧ (limbs (val xs / 2 ^ n)).length ≤ c ∧ Lim w' w'.heap.size A (limbs (val xs / 2 ^ n)) ∧ Below w.heap.size w w' := by
  obtain ⟨m, s, hn1, hs, hm1, hs1⟩ : ∃ m s, n = 64 * m + s ∧ s < 64 ∧ m = n / 64 ∧ s = n % 64 := ⟨n / 64, n % 64, by omega, by omega, rfl, rfl⟩
  have rk : (n : Int) / 64 = (m : Int) := by omega
  have rs : (n : Int) % 64 = (s : Int) := by omega
  obtain ⟨k, hk⟩ : ∃ k, min m xs.length = k := ⟨_, rfl⟩
  have hkl : k ≤ xs.length := by omega
  have rmin : min (m : Int) (xs.length : Int) = (k : Int) := by omega
  have hlI : (xs.length : Int) ≤ 1099511627776 := by omega
  have hnI := lt_W64 hn
  have HL := Lib.hid hl
  have HP2 := Lib.hid (show 2 ^ n = W64 ^ m * 2 ^ s by rw [hn1, Nat.pow_add, ← W64_pow])
  have HK := Lib.hid hk
  clear hl hn hn1 hm1 hs1 hk
  go_enter Try.func149, Try.ntmps149
  go_wp2_with fail
  go_loop [7, 24] (fun t7 t24 => ∃ i : Nat, i ≤ k ∧ t24 = .int .i64 (i : Int) ∧ t7 = .bool (decide (val (xs.take i) ≠ 0))) (fun _ t24 => k - (intOf t24).toNat)
  case atStart => exact ⟨0, by omega, rfl, by simp⟩
  case round =>
    obtain ⟨i, hi, rfl, rfl⟩ := hrel
    obtain ⟨b, hb⟩ : ∃ b, decide (val (xs.take i) ≠ 0) = b := ⟨_, rfl⟩
    rw [hb]
    have HB := Lib.hid hb
    clear hb
    by_cases hlt : i < k
    · obtain ⟨ad, rfl, hb, hcell⟩ := h1.at_ (k := i) (by omega)
      obtain ⟨x, hx⟩ : ∃ x, xs.getD i 0 = x := ⟨_, rfl⟩
      rw [hx] at hcell
      have hstep := val_take_step xs i
      rw [hx] at hstep
      have HS := Lib.hid hstep
      have HX := Lib.hid hx
      clear hstep hx
      cases b with
      | true =>
        have HN1 := Lib.hid (show decide (val (xs.take (i + 1)) ≠ 0) = true by
          have h := HB.out
          simp only [decide_eq_true_eq] at h ⊢
          rw [HS.out]; omega)
        go_wp2_with fail
        exact ⟨⟨i + 1, by omega, by go_num, by rw [HN1.out]⟩, by simp [intOf]; omega⟩
      | false =>
        have h0 : val (xs.take i) = 0 := by simpa using HB.out
        have H0 := Lib.hid h0
        clear h0
        by_cases hx0 : x = 0
        · subst hx0
          have HN1 := Lib.hid (show decide (val (xs.take (i + 1)) ≠ 0) = false by rw [HS.out, H0.out]; simp)
          go_wp2_with fail
          exact ⟨⟨i + 1, by omega, by go_num, by rw [HN1.out]⟩, by simp [intOf]; omega⟩
        · have t1 : ((x : Int) != 0) = true := by rw [bne_iff_ne]; omega
          have HN1 := Lib.hid (show decide (val (xs.take (i + 1)) ≠ 0) = true by
            rw [HS.out, H0.out, Nat.zero_add]
            simp only [decide_eq_true_eq]
            exact Nat.mul_ne_zero (by have := Nat.pow_pos (n := i) W64_pos; omega) hx0)
          go_wp2_with fail
          exact ⟨⟨i + 1, by omega, by go_num, by rw [HN1.out]⟩, by simp [intOf]; omega⟩
    · obtain rfl : i = k := by omega
      by_cases hkl2 : i < xs.length
      · have hmi : m = i := by have := HK.out; omega
        obtain ⟨ad, rfl, hba, hcell0⟩ := h1.at_ hkl2
        have h2 : Lim w B (some (ad.add i)) (xs.drop i) := by
          have := h1.cut (k := i) hc
          rwa [if_neg (by omega)] at this
        obtain ⟨ly, hly⟩ : ∃ ly, xs.length - i = ly := ⟨_, rfl⟩
        obtain ⟨ys, hys⟩ : ∃ ys, xs.drop i = ys := ⟨_, rfl⟩
        have hyl : ys.length = ly := by rw [← hys, List.length_drop, hly]
        rw [hys] at h2
        obtain ⟨x0, hx0⟩ : ∃ x0, ys.getD 0 0 = x0 := ⟨_, rfl⟩
        have hx0c : xs.getD i 0 = x0 := by rw [← hx0, ← hys]; simp
        rw [hx0c] at hcell0
        have hx0W : x0 < W64 := hx0 ▸ h2.small.getD 0
        obtain ⟨z, hz⟩ : ∃ z, x0 * 2 ^ (64 - s) % W64 = z := ⟨_, rfl⟩
        have ez : IntKind.u64.wrap ((x0 : Int) * 2 ^ (64 - s)) = (z : Int) := by
          have e : (x0 : Int) * 2 ^ (64 - s) = ((x0 * 2 ^ (64 - s) : Nat) : Int) := by simp
          rw [e, wrap_u64_nat, hz]
        have hcut := cut_off (s := s) h1.small (m := i) (by omega)
        rw [hys] at hcut
        have hlost := lost_bits (x := x0) hs
        rw [hz] at hlost
        have hmod : val ys % 2 ^ s = x0 % 2 ^ s := by
          have h3 := val_drop_step ys 0 (by omega)
          rw [List.drop_zero, hx0] at h3
          have e64 : W64 = 2 ^ s * 2 ^ (64 - s) := by rw [← Nat.pow_add, show s + (64 - s) = 64 by omega, W64_two]
          rw [h3, e64, Nat.mul_assoc, Nat.add_mul_mod_self_left]
        have hlB : lostB (val xs) n = (b || decide (z ≠ 0)) := by
          have h4 := HB.out
          unfold lostB
          rw [HP2.out, hmi, ← h4]
          by_cases ha : val (xs.take i) = 0 <;> by_cases hb2 : z = 0 <;> simp [hcut.2, hmod, ha, hb2, ← hlost]
        have HLB := Lib.hid hlB
        have HCUT := Lib.hid (show val xs / 2 ^ n = val ys / 2 ^ s by rw [HP2.out, hmi]; exact hcut.1)
        have HMOD := Lib.hid hmod
        have HX0 := Lib.hid hx0
        have HYL := Lib.hid hyl
        have hlyI : (ly : Int) ≤ 1099511627776 := by omega
        have hly0 : 0 < ly := by omega
        have tl : ((ly : Int) == 0) = false := beq_eq_false_iff_ne.2 (by omega)
        have tc : ¬ c1 = i := by omega
        have hmk := make_limbs ly (by omega)
        clear hlB hcut hlost hmod hx0c hys hyl hx0 hz hmi
        go_upto_region 11 with (fail)
        go_cut [7] (fun t7 wx => w = wx ∧ t7 = .bool (b || decide (z ≠ 0)))
        case first =>
          cases b with
          | true =>
            go_wp2_with fail
            go_meet
            exact ⟨rfl, rfl⟩
          | false =>
            by_cases hz0 : z = 0
            · subst hz0
              go_wp2_with fail
              go_meet
              exact ⟨rfl, rfl⟩
            · have tz : ((z : Int) != 0) = true := by rw [bne_iff_ne]; omega
              go_wp2_with fail
              go_meet
              exact ⟨rfl, by simp [hz0]⟩
        case rest =>
          obtain ⟨rfl, rfl⟩ := hcut
          obtain ⟨lb, hlb⟩ : ∃ lb, (b || decide (z ≠ 0)) = lb := ⟨_, rfl⟩
          rw [hlb]
          have HLB2 := Lib.hid hlb
          clear hlb
          go_wp2_with fail
          go_loopw [57] (fun t57 wr => ∃ (q : Nat) (os : List Nat), q ≤ ly ∧ t57 = .int .i64 (q : Int) ∧ os.length = ly ∧ Row wr w.heap.size os ∧ Below w.heap.size w wr ∧ val (os.take q) * 2 ^ s + x0 % 2 ^ s = val (ys.take q) + W64 ^ q * (ys.getD q 0 % 2 ^ s)) (fun t57 _ => ly - (intOf t57).toNat)
          case atStart => exact ⟨0, List.replicate ly 0, by omega, rfl, by simp, Row.made _ _, (Below.refl _ _).alloc (Nat.le_refl _) _, by rw [HX0.out]; simp⟩
          case round =>
            obtain ⟨q, os, hq, rfl, ho, hrow, hbel, hval⟩ := hrel
            have HV := Lib.hid hval
            have HO := Lib.hid ho
            clear hval ho
            by_cases hlt : q < ly
            · obtain ⟨ad3, had, hb3, hcell⟩ := (h2.below (hbel.mono hB)).at_ (k := q) (by rw [HYL.out]; exact hlt)
              injection had with had
              subst had
              obtain ⟨x, hx⟩ : ∃ x, ys.getD q 0 = x := ⟨_, rfl⟩
              obtain ⟨y, hy⟩ : ∃ y, ys.getD (q + 1) 0 = y := ⟨_, rfl⟩
              have hxW : x < W64 := hx ▸ h2.small.getD q
              rw [hx] at hcell
              obtain ⟨hd1, hd2, hd3⟩ := shr_step (y := y) hxW hs
              have hcg := hrow.cell (k := q) (by rw [HO.out]; omega)
              have hfg := hrow.free q
              have e2 : (x : Int) / 2 ^ s = ((x / 2 ^ s : Nat) : Int) := by simp
              have hxs : x / 2 ^ s < W64 := Nat.lt_of_le_of_lt (Nat.div_le_self _ _) hxW
              have hrow1 := hrow.set (k := q) (x := x / 2 ^ s) (by rw [HO.out]; omega) hxs
              have hbel1 := hbel.setCell (p := ⟨w.heap.size, q, none⟩) (Nat.le_refl _) (.int .u64 ((x / 2 ^ s : Nat) : Int))
              have hgen : val ((os.take q) ++ [x / 2 ^ s + y % 2 ^ s * 2 ^ (64 - s)]) * 2 ^ s + x0 % 2 ^ s = val (ys.take (q + 1)) + W64 ^ (q + 1) * (y % 2 ^ s) := by
                have hV := HV.out
                rw [hx] at hV
                rw [val_snoc, List.length_take, Nat.min_eq_left (by rw [HO.out]; omega), val_take_step ys, hx, Nat.pow_succ]
                generalize x / 2 ^ s + y % 2 ^ s * 2 ^ (64 - s) = d at *
                generalize W64 ^ q = P at *
                have : P * (d * 2 ^ s + x % 2 ^ s) = P * (x + W64 * (y % 2 ^ s)) := by rw [hd2]
                generalize 2 ^ s = R at *
                grind
              by_cases hlast : q + 1 < ly
              · obtain ⟨ad4, had4, hb4, hcell4⟩ := (h2.below (hbel1.mono hB)).at_ (k := q + 1) (by rw [HYL.out]; exact hlast)
                injection had4 with had4
                subst had4
                rw [hy, add_succ] at hcell4
                have hyW : y < W64 := hy ▸ h2.small.getD (q + 1)
                have hcg1 := hrow1.cell (k := q) (by rw [List.length_set, HO.out]; omega)
                have hfg1 := hrow1.free q
                have e3 : (os.set q (x / 2 ^ s)).getD q 0 = x / 2 ^ s := by simp [show q < os.length by rw [HO.out]; omega]
                rw [e3] at hcg1
                have e4 : bits .or .u64 ((x / 2 ^ s : Nat) : Int) (IntKind.u64.wrap ((y : Int) * 2 ^ (64 - s))) = ((x / 2 ^ s + y % 2 ^ s * 2 ^ (64 - s) : Nat) : Int) := by
                  have e : (y : Int) * 2 ^ (64 - s) = ((y * 2 ^ (64 - s) : Nat) : Int) := by simp
                  rw [e, wrap_u64_nat, u64_or_nat _ _ (by rw [← W64_eq]; exact hxs) (by rw [← W64_eq]; exact Nat.mod_lt _ W64_pos), hd3]
                have hrow2 := hrow1.set (k := q) (x := x / 2 ^ s + y % 2 ^ s * 2 ^ (64 - s)) (by rw [List.length_set, HO.out]; omega) hd1
                have hbel2 := hbel1.setCell (p := ⟨w.heap.size, q, none⟩) (Nat.le_refl _) (.int .u64 ((x / 2 ^ s + y % 2 ^ s * 2 ^ (64 - s) : Nat) : Int))
                have HD := Lib.hid (And.intro hd2 hd3)
                have HX := Lib.hid hx
                have HY := Lib.hid hy
                have HG := Lib.hid hgen
                clear hd2 hd3 hx hy e3 hgen
                generalize x / 2 ^ s + y % 2 ^ s * 2 ^ (64 - s) = d at *
                generalize x / 2 ^ s = xl at *
                have hlI2 : ((q : Int) + 1) < (ly : Int) := by omega
                have q0 : (0 : Int) ≤ (q : Int) := by omega
                have q1 : (q : Int) < (ly : Int) := by omega
                have q2 : (0 : Int) ≤ (q : Int) + 1 := by omega
                go_wp2_with fail
                generalize hWe : wr.setCell ⟨w.heap.size, q, none⟩ (.int .u64 (xl : Int)) = W1 at *
                have HWE := Lib.hid hWe
                clear hWe
                go_region
                go_wp2_with fail
                exact ⟨⟨q + 1, (os.set q xl).set q d, by omega, by go_num, by rw [List.length_set, List.length_set, HO.out], hrow2.of_block rfl, hbel2.drew, by
                  rw [take_set_succ _ _ _ (by rw [List.length_set, HO.out]; omega), List.take_set_of_le (Nat.le_refl q), HY.out]; exact HG.out⟩, by simp [intOf]; omega⟩
              · have hql : q + 1 = ly := by omega
                have hy0 : y = 0 := by rw [← hy]; simp [show ys.length ≤ q + 1 by rw [HYL.out]; omega]
                subst hy0
                rw [Nat.zero_mod, Nat.zero_mul, Nat.add_zero] at hgen
                have HG := Lib.hid hgen
                have HY := Lib.hid hy
                have HX := Lib.hid hx
                have HD := Lib.hid (And.intro hd2 hd3)
                have hlI2 : ¬ ((q : Int) + 1) < (ly : Int) := by omega
                clear hd2 hd3 hx hy hgen hql
                generalize x / 2 ^ s = xl at *
                go_wp2_with fail
                exact ⟨⟨q + 1, os.set q xl, by omega, by go_num, by rw [List.length_set, HO.out], hrow1, hbel1, by
                  rw [take_set_succ _ _ _ (by rw [HO.out]; omega), HY.out]; exact HG.out⟩, by simp [intOf]; omega⟩
            · obtain rfl : q = ly := by omega
              have HF := Lib.hid (show val os = val ys / 2 ^ s by
                have hV := HV.out
                rw [List.take_of_length_le (by rw [HO.out]; omega), List.take_of_length_le (by rw [HYL.out]; omega), show ys.getD q 0 = 0 by simp [show ys.length ≤ q by rw [HYL.out]; omega], Nat.zero_mod, Nat.mul_zero, Nat.add_zero] at hV
                have hlt2 : x0 % 2 ^ s < 2 ^ s := Nat.mod_lt _ (Nat.pow_pos (by omega))
                rw [← hV, Nat.mul_comm, Nat.mul_add_div (Nat.pow_pos (by omega)), Nat.div_eq_of_lt hlt2]; rfl)
              go_wp2_with fail
              rw [← HO.out]
              refine (big_trim _ _ _ _ (hrow.lim (B := w.heap.size + 1) (by omega)) (Nat.le_refl _) (by rw [HO.out]; omega)).mono ?_
              rintro e w1 ⟨rfl, rfl⟩
              rw [HF.out]
              go_wp2_with fail
              go_ret2
              have hl3 := limbs_val_le hrow.small
              rw [HF.out] at hl3
              have hlim := (hrow.lim (B := w.heap.size + 1) (by omega)).trim.more hrow.lt
              rw [HF.out] at hlim
              exact ⟨_, _, by rw [HLB.out, HLB2.out, HCUT.out]; rfl, by rw [HCUT.out]; exact hl3, by rw [HCUT.out]; exact hlim, hbel⟩
      · obtain rfl : i = xs.length := by omega
        have hv0 : val xs < 2 ^ n := by
          rw [HP2.out]
          have h3 := val_lt h1.small
          have h4 : W64 ^ xs.length ≤ W64 ^ m := Nat.pow_le_pow_right W64_pos (by have := HK.out; omega)
          have h5 : W64 ^ m * 1 ≤ W64 ^ m * 2 ^ s := Nat.mul_le_mul_left _ (Nat.pow_pos (by omega))
          omega
        have HE := Lib.hid (show limbs (val xs / 2 ^ n) = [] by rw [Nat.div_eq_of_lt hv0, limbs_zero])
        have HLB := Lib.hid (show lostB (val xs) n = b by
          unfold lostB
          have h4 := HB.out
          rw [List.take_length] at h4
          rw [Nat.mod_eq_of_lt hv0, h4])
        go_wp2_with fail
        all_goals go_ret2
        all_goals exact ⟨none, 0, by rw [HE.out, HLB.out]; rfl, by rw [HE.out]; simp, by rw [HE.out]; exact Lim.nil _ _ _, Below.refl _ _⟩

end Go.Proofs.Ytmnfokapdipcdaa
