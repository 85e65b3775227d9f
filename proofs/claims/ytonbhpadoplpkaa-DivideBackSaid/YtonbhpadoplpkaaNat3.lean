import Derived.Test.YtonbhpadoplpkaaNat
import Derived.Test.YtonbhpadoplpkaaDiv64
import Derived.BigRegion
import Derived.StillTailTactics
import Derived.Deep.DeepCutAuto
/- The contracts of package big's sizes (nat.go), on: over one limb; how many bits; moved up and down. -/
namespace Go.Proofs.Ytonbhpadoplpkaa
open Go.RowKit Go.Deep

theorem bits_div64 (hi lo y : Nat) (hlo : lo < W64) (hy : y < W64) (hhi : hi < y) (w : World) :
    Calls Try.prog 71 #[.int .u64 hi, .int .u64 lo, .int .u64 y] w fun e w' => e = .returned (.tuple #[.int .u64 (((hi * W64 + lo) / y : Nat) : Int), .int .u64 (((hi * W64 + lo) % y : Nat) : Int)]) ∧ ∃ n, w' = w.drewN n := by
  by_cases h0 : hi = 0
  · subst h0
    have y1 : (1 : Int) ≤ (y : Int) := by omega
    have bl := lt_W64 hlo
    have bY := lt_W64 hy
    have t0 : ((y : Int) == 0) = false := beq_eq_false_iff_ne.2 (by omega)
    have e1 : IntKind.u64.wrap ((lo : Int) / (y : Int)) = (lo : Int) / (y : Int) := wrap_quo lo y hlo
    have HE := Lib.hid (show (0 * W64 + lo) / y = lo / y ∧ (0 * W64 + lo) % y = lo % y by rw [Nat.zero_mul, Nat.zero_add]; exact ⟨rfl, rfl⟩)
    rw [HE.out.1, HE.out.2]
    go_enter Try.func71, Try.ntmps71
    go_wp2_with fail
    go_quiet (fail)
    go_wp2_with fail
    go_ret2
    exact ⟨by simp, _, rfl⟩
  · exact (bits_div64_great hi lo y hlo hy hhi h0 w).mono fun _ _ h => ⟨h.1, 0, h.2.symm⟩
theorem digit_lt {r x by_ : Nat} (hr : r < by_) (hx : x < W64) : (r * W64 + x) / by_ < W64 := by
  refine Nat.div_lt_of_lt_mul ?_
  have := Nat.mul_le_mul_right W64 (show r + 1 ≤ by_ from hr)
  rw [Nat.add_mul, Nat.one_mul] at this
  omega

set_option maxHeartbeats 800000 in
set_option maxRecDepth 100000 in
theorem big_short (A1 : Option Addr) (c1 : Nat) (xs : List Nat) (d : Nat) (w : World) {B : Nat} (hB : B ≤ w.heap.size) (h1 : Lim w B A1 xs) (hl : xs.length ≤ 1099511627776) (hd : d < W64) (hd0 : 0 < d) :
    Calls Try.prog 106 #[.slice A1 xs.length c1, .int .u64 (d : Int)] w fun e w' => ∃ A c, e = .returned (.tuple #[.slice A (limbs (val xs / d)).length c, .int .u64 ((val xs % d : Nat) : Int)]) ∧ (limbs (val xs / d)).length ≤ c ∧ Lim w' w'.heap.size A (limbs (val xs / d)) ∧ Below w.heap.size w w' := by
  have hmk := make_limbs xs.length (by omega)
  go_enter Try.func106, Try.ntmps106
  go_wp2_with fail
  go_loopw [7, 8] (fun t7 t8 wr => ∃ (k r : Nat) (os : List Nat), k ≤ xs.length ∧ r < d ∧ os.length = xs.length ∧ t7 = .int .u64 (r : Int) ∧ t8 = .int .i64 ((k : Int) - 1) ∧ Row wr w.heap.size os ∧ Below w.heap.size w wr ∧ val (xs.drop k) = d * val (os.drop k) + r) (fun _ t8 _ => (intOf t8 + 1).toNat)
  case atStart =>
    exact ⟨xs.length, 0, List.replicate xs.length 0, by omega, hd0, by simp, rfl, rfl, Row.made _ _, (Below.refl _ _).alloc (Nat.le_refl _) _, by simp⟩
  case round =>
    obtain ⟨k, r, os, hk, hr, ho, rfl, rfl, hrow, hbel, hval⟩ := hrel
    have HV := Lib.hid hval
    have HO := Lib.hid ho
    clear hval ho
    rcases k with _ | k
    · have hq : val os = val xs / d ∧ r = val xs % d := by
        have h := HV.out
        rw [List.drop_zero, List.drop_zero] at h
        rw [h, Nat.mul_add_div hd0, Nat.mul_add_mod, Nat.div_eq_of_lt hr, Nat.mod_eq_of_lt hr]
        exact ⟨rfl, rfl⟩
      have HQ := Lib.hid hq
      clear hq
      go_wp2_with fail
      rw [← HO.out]
      refine (big_trim _ _ _ _ (hrow.lim (B := w.heap.size + 1) (by omega)) (Nat.le_refl _) (by rw [HO.out]; omega)).mono ?_
      rintro e w1 ⟨rfl, rfl⟩
      rw [HQ.out.1]
      go_wp2_with fail
      go_ret2
      have hl3 := limbs_val_le hrow.small
      rw [HQ.out.1] at hl3
      have hlim := (hrow.lim (B := w.heap.size + 1) (by omega)).trim.more hrow.lt
      rw [HQ.out.1] at hlim
      exact ⟨_, _, by rw [← HQ.out.2]; rfl, hl3, hlim, hbel⟩
    · obtain ⟨ad, rfl, hb, hcell⟩ := (h1.below (hbel.mono hB)).at_ (k := k) (by omega)
      obtain ⟨x, hx⟩ : ∃ x, xs.getD k 0 = x := ⟨_, rfl⟩
      have hxs : x < W64 := hx ▸ h1.small.getD k
      rw [hx] at hcell
      have hdl := digit_lt hr hxs
      have hml : (r * W64 + x) % d < d := Nat.mod_lt _ hd0
      have h2 := Nat.div_add_mod (r * W64 + x) d
      have hdiv := bits_div64 r x d hxs hd hr
      generalize (r * W64 + x) / d = q at *
      generalize (r * W64 + x) % d = t at *
      have hstep : val (xs.drop k) = d * val ((os.set k q).drop k) + t := by
        have hV := HV.out
        rw [val_drop_step xs k (by omega), hx, hV, val_drop_set os k _ (by rw [HO.out]; omega)]
        generalize val (os.drop (k + 1)) = v at *
        grind
      have HS := Lib.hid hstep
      have HL := Lib.hid (show (os.set k q).length = xs.length by rw [List.length_set, HO.out])
      have hcg := hrow.cell (k := k) (by rw [HO.out]; omega)
      have hfg := hrow.free k
      have HK := Lib.hid (show k < os.length by rw [HO.out]; omega)
      have HDIV := Lib.hid hdiv
      have e1 : ((k + 1 : Nat) : Int) - 1 = (k : Int) := by omega
      rw [e1]
      clear e1 hstep hx h2 hdiv
      go_wp2_with fail
      refine (HDIV.out _).mono ?_
      rintro e w1 ⟨rfl, n, rfl⟩
      go_wp2_with fail
      exact ⟨⟨k, _, _, by omega, hml, HL.out, rfl, rfl, (hrow.drewN n).set HK.out hdl, (below_drewN hbel n).setCell (p := ⟨w.heap.size, k, none⟩) (Nat.le_refl _) _, HS.out⟩, by simp [intOf]⟩
/-! ### size -/
theorem nbits_top {xs : List Nat} (hs : Small xs) {t : Nat} (ht0 : t ≠ 0) (ht : t < W64) : nbits (val (xs ++ [t])) = 64 * xs.length + bitLen t := by
  have ht' : t < 2 ^ 64 := by rw [← W64_two]; exact ht
  obtain ⟨h1, h2⟩ := bitLen_spec t ht'
  have h2 := h2 ht0
  have hp := bitLen_pos ht' ht0
  have hv := val_lt hs
  rw [val_snoc]
  obtain ⟨b, hb⟩ : ∃ b, bitLen t = b + 1 := ⟨bitLen t - 1, by omega⟩
  rw [hb, Nat.pow_succ] at h1 h2
  have e := nbits_eq (n := val xs + W64 ^ xs.length * t) (k := 64 * xs.length + b) ?_ ?_
  · omega
  · rw [Nat.pow_add, ← W64_pow]
    have := Nat.mul_le_mul_left (W64 ^ xs.length) (show 2 ^ b ≤ t by omega)
    omega
  · rw [Nat.add_assoc, Nat.pow_add, ← W64_pow, Nat.pow_succ]
    have := Nat.mul_le_mul_left (W64 ^ xs.length) (show t + 1 ≤ 2 ^ b * 2 from h1)
    rw [Nat.mul_add, Nat.mul_one] at this
    omega
theorem snoc_of_norm {xs : List Nat} (h : Norm xs) (hne : xs ≠ []) : ∃ ys t, xs = ys ++ [t] ∧ t ≠ 0 := by
  refine ⟨xs.dropLast, xs.getLast hne, (List.dropLast_concat_getLast hne).symm, ?_⟩
  rcases h with h | h
  · exact absurd h hne
  · have hl : 0 < xs.length := List.length_pos_iff.2 hne
    have e : xs.getD (xs.length - 1) 0 = xs.getLast hne := by
      rw [List.getLast_eq_getElem]
      simp [show xs.length - 1 < xs.length by omega]
    rw [e] at h; exact h

set_option maxHeartbeats 400000 in
theorem big_size (A : Option Addr) (c m : Nat) (w : World) {B : Nat} (h1 : Lim w B A (limbs m)) (hl : (limbs m).length ≤ 1099511627776) :
    Calls Try.prog 110 #[.slice A (limbs m).length c] w fun e w' => e = .returned (.int .i64 (nbits m : Nat)) ∧ w = w' := by
  by_cases h0 : m = 0
  · subst h0
    rw [limbs_zero]
    have t0 : (([] : List Nat).length : Int) = 0 := rfl
    go_enter Try.func110, Try.ntmps110
    go_wp2_with fail
    go_ret
    exact ⟨rfl, rfl⟩
  · obtain ⟨ys, t, hyt, ht0⟩ := snoc_of_norm (norm_limbs m) (fun e => h0 (limbs_eq_nil.1 e))
    have hsm := small_limbs m
    rw [hyt] at hsm
    have hys : Small ys := fun z hz => hsm z (by simp [hz])
    have htW : t < W64 := hsm t (by simp)
    have hnb := nbits_top hys ht0 htW
    rw [← hyt, val_limbs] at hnb
    have hlen : (limbs m).length = ys.length + 1 := by rw [hyt]; simp
    obtain ⟨ad, rfl, hb, hcell⟩ := h1.at_ (k := ys.length) (by omega)
    have e : (limbs m).getD ys.length 0 = t := by rw [hyt]; simp
    rw [e] at hcell
    rw [hlen] at hl ⊢
    have t0 : ((ys.length : Int) + 1 == 0) = false := beq_eq_false_iff_ne.2 (by omega)
    have hbl := bitLen_le64 htW
    have HN := Lib.hid hnb
    clear hnb e hlen
    go_enter Try.func110, Try.ntmps110
    go_wp2_with fail
    refine (bits_lz64 t htW _).mono ?_
    rintro e w1 ⟨rfl, rfl⟩
    go_wp2_with fail
    go_ret
    exact ⟨by rw [HN.out, show ((64 * ys.length + bitLen t : Nat) : Int) = 64 * ((ys.length : Int) + 1) - ((64 - bitLen t : Nat) : Int) by omega]; rfl, rfl⟩
/-! ### left -/
theorem shl_step {x s low : Nat} (hx : x < W64) (_hs : s < 64) (hlow : low < 2 ^ s) :
    x * 2 ^ s % W64 + low < W64 ∧ x / 2 ^ (64 - s) < 2 ^ s ∧ (x * 2 ^ s % W64 + low) + W64 * (x / 2 ^ (64 - s)) = x * 2 ^ s + low ∧ (x * 2 ^ s % W64 ||| low) = x * 2 ^ s % W64 + low := by
  have e64 : W64 = 2 ^ (64 - s) * 2 ^ s := by rw [← Nat.pow_add, show 64 - s + s = 64 by omega, W64_two]
  have hp : 0 < 2 ^ s := Nat.pow_pos (by omega)
  have hm : x * 2 ^ s % W64 = 2 ^ s * (x % 2 ^ (64 - s)) := by rw [e64, Nat.mul_mod_mul_right, Nat.mul_comm]
  have hd := Nat.div_add_mod x (2 ^ (64 - s))
  have hml := Nat.mod_lt x (show 0 < 2 ^ (64 - s) from Nat.pow_pos (by omega))
  have h4 : x / 2 ^ (64 - s) < 2 ^ s := Nat.div_lt_of_lt_mul (by rw [← e64]; exact hx)
  have hor := Nat.two_pow_add_eq_or_of_lt hlow (x % 2 ^ (64 - s))
  rw [hm]
  refine ⟨?_, h4, ?_, hor.symm⟩
  · have h5 := Nat.mul_le_mul_left (2 ^ s) (show x % 2 ^ (64 - s) + 1 ≤ 2 ^ (64 - s) from hml)
    rw [Nat.mul_add, Nat.mul_one, Nat.mul_comm (2 ^ s) (2 ^ (64 - s)), ← e64] at h5
    omega
  · generalize 2 ^ (64 - s) = P at *
    generalize 2 ^ s = R at *
    generalize x / P = a at *
    generalize x % P = b at *
    rw [← hd, e64]
    grind

set_option maxHeartbeats 800000 in
set_option maxRecDepth 100000 in
theorem big_left (A1 : Option Addr) (c1 : Nat) (xs : List Nat) (n : Nat) (w : World) {B : Nat} (hB : B ≤ w.heap.size) (h1 : Lim w B A1 xs) (hl : xs.length ≤ 1099511627776) (hn : n ≤ 70368744177664) :
    Calls Try.prog 100 #[.slice A1 xs.length c1, .int .u64 (n : Int)] w fun e w' => ∃ A c, e = .returned (.slice A (limbs (val xs * 2 ^ n)).length c) ∧ (limbs (val xs * 2 ^ n)).length ≤ c ∧ Lim w' w'.heap.size A (limbs (val xs * 2 ^ n)) ∧ Below w.heap.size w w' ∧ Own w' w.heap.size (.slice A (limbs (val xs * 2 ^ n)).length c) (limbs (val xs * 2 ^ n)) := by
  by_cases hx0 : xs.length = 0
  · have e := List.eq_nil_of_length_eq_zero hx0
    subst e
    have HE := Lib.hid (show limbs (val ([] : List Nat) * 2 ^ n) = [] by rw [val_nil, Nat.zero_mul, limbs_zero])
    rw [HE.out]
    replace hn := Lib.hid hn
    go_enter Try.func100, Try.ntmps100
    go_wp2_with fail
    go_ret
    exact ⟨none, 0, rfl, by simp, Lim.nil _ _ _, Below.refl _ _, Own.nil _ _⟩
  obtain ⟨k, s, hn1, hs, hk1, hs1⟩ : ∃ k s, n = 64 * k + s ∧ s < 64 ∧ k = n / 64 ∧ s = n % 64 := ⟨n / 64, n % 64, by omega, by omega, rfl, rfl⟩
  have hmk := make_limbs_cap k (k + xs.length + 1) (by omega) (by omega)
  rw [Int.natCast_add, Int.natCast_add, Int.natCast_one] at hmk
  have rk : (n : Int) / 64 = (k : Int) := by omega
  have rs : (n : Int) % 64 = (s : Int) := by omega
  have hlI : (xs.length : Int) ≤ 1099511627776 := by omega
  have hkI : (k : Int) ≤ 1099511627776 := by omega
  have t0 : ((xs.length : Int) == 0) = false := beq_eq_false_iff_ne.2 (by omega)
  have HL := Lib.hid hl
  have HP2 := Lib.hid (show 2 ^ n = W64 ^ k * 2 ^ s by rw [hn1, Nat.pow_add, ← W64_pow])
  have HKn := Lib.hid (show k ≤ 1099511627776 by omega)
  clear hl hn hn1 hk1 hs1
  go_enter Try.func100, Try.ntmps100
  go_wp2_with fail
  go_loopw [5, 6, 24] (fun t5 t6 t24 wr => ∃ (i low : Nat) (os : List Nat), i ≤ xs.length ∧ low < 2 ^ s ∧ os.length = k + i ∧ t6 = .int .u64 (low : Int) ∧ t24 = .int .i64 (i : Int) ∧ Own wr w.heap.size t5 os ∧ Below w.heap.size w wr ∧ val os + W64 ^ (k + i) * low = val (xs.take i) * 2 ^ n) (fun _ _ t24 _ => xs.length - (intOf t24).toNat)
  case atStart =>
    exact ⟨0, 0, List.replicate k 0, by omega, Nat.pow_pos (by omega), by simp, rfl, rfl, Own.made _ _ _ _ (Nat.le_refl _) (by omega) (by have := HL.out; have := HKn.out; omega), (Below.refl _ _).alloc (Nat.le_refl _) _, by simp [val_zeros]⟩
  case round =>
    obtain ⟨i, low, os, hi, hlow, ho, rfl, rfl, hown, hbel, hval⟩ := hrel
    have HV := Lib.hid hval
    have HO := Lib.hid ho
    have hpow : 2 ^ s ≤ W64 := by rw [W64_two]; exact Nat.pow_le_pow_right (by omega) (by omega)
    have hlW : low < W64 := by omega
    have HLOW := Lib.hid hlow
    clear hval ho hlow
    by_cases hlt : i < xs.length
    · obtain ⟨ad, rfl, hb, hcell⟩ := (h1.below (hbel.mono hB)).at_ hlt
      obtain ⟨x, hx⟩ : ∃ x, xs.getD i 0 = x := ⟨_, rfl⟩
      have hxs : x < W64 := hx ▸ h1.small.getD i
      rw [hx] at hcell
      obtain ⟨hd1, hd2, hd3, hd4⟩ := shl_step hxs hs HLOW.out
      have e1 : bits .or .u64 (IntKind.u64.wrap ((x : Int) * 2 ^ s)) (low : Int) = ((x * 2 ^ s % W64 + low : Nat) : Int) := by
        have e : (x : Int) * 2 ^ s = ((x * 2 ^ s : Nat) : Int) := by simp
        rw [e, wrap_u64_nat, u64_or_nat _ _ (by rw [← W64_eq]; exact Nat.mod_lt _ W64_pos) (by rw [← W64_eq]; exact hlW), hd4]
      have e2 : (x : Int) / 2 ^ (64 - s) = ((x / 2 ^ (64 - s) : Nat) : Int) := by simp
      have hstep : val (os ++ [x * 2 ^ s % W64 + low]) + W64 ^ (k + (i + 1)) * (x / 2 ^ (64 - s)) = val (xs.take (i + 1)) * 2 ^ n := by
        have hV := HV.out
        rw [val_snoc, HO.out, val_take_step xs, hx, ← Nat.add_assoc, Nat.pow_succ]
        rw [HP2.out, Nat.pow_add W64 k i] at hV ⊢
        generalize x * 2 ^ s % W64 + low = d at *
        generalize x / 2 ^ (64 - s) = t at *
        generalize W64 ^ k = P at *
        generalize W64 ^ i = R at *
        generalize 2 ^ s = T at *
        have : P * R * (d + W64 * t) = P * R * (x * T + low) := by rw [hd3]
        grind
      have HS := Lib.hid hstep
      generalize x * 2 ^ s % W64 + low = d at *
      generalize x / 2 ^ (64 - s) = t at *
      have HX := Lib.hid hx
      have H3 := Lib.hid (And.intro hd2 (And.intro hd3 hd4))
      clear hstep hx hd2 hd3 hd4
      have HLE := Lib.hid (show os.length + 1 ≤ 17592186044416 by have := HO.out; have := HL.out; have := HKn.out; omega)
      go_wp2_with (at_builtin; refine append_one (w0 := w) w.heap.size rfl _ _ rfl _ os d (by rfl) (by rfl) hd1 hown hbel hbel.size HLE.out ?_)
      intro v1 w1 hown1 hbel1 _
      go_wp2_with fail
      have H3 := H3.out
      exact ⟨⟨i + 1, t, os ++ [d], by omega, H3.1, by rw [List.length_append, HO.out]; rfl, rfl, by go_num, hown1, hbel1, HS.out⟩, by simp [intOf]; omega⟩
    · obtain rfl : i = xs.length := by omega
      have HF := Lib.hid (show val (os ++ [low]) = val xs * 2 ^ n by
        have hV := HV.out
        rw [List.take_length] at hV
        rw [val_snoc, HO.out]; exact hV)
      have HLE := Lib.hid (show os.length + 1 ≤ 17592186044416 by have := HO.out; have := HL.out; have := HKn.out; omega)
      go_wp2_with (at_builtin; refine append_one (w0 := w) w.heap.size rfl _ _ rfl _ os low (by rfl) (by rfl) hlW hown hbel hbel.size HLE.out ?_)
      intro v1 w1 hown1 hbel1 _
      have hll : (os ++ [low]).length ≤ 35184372088832 := by rw [List.length_append]; have := HLE.out; simp only [List.length_singleton]; omega
      generalize os ++ [low] = zs at *
      replace hll := Lib.hid hll
      obtain ⟨A, c, hv1, hlc, hlim, _⟩ := hown1.form
      rw [hv1]
      have hown2 := Lib.hid (show Own w1 w.heap.size (.slice A zs.length c) zs by rw [← hv1]; exact hown1)
      clear hv1
      go_wp2_with fail
      refine (big_trim _ _ _ _ hlim hlc hll.out).mono ?_
      rintro e w2 ⟨rfl, rfl⟩
      rw [HF.out]
      go_wp2_with fail
      go_ret
      have hl3 := limbs_val_le hown1.small
      have hlim2 := hlim.trim
      rw [HF.out] at hl3 hlim2
      have hown3 := hown2.out.trim
      rw [HF.out] at hown3
      exact ⟨_, _, rfl, by omega, hlim2, hbel1, hown3⟩
end Go.Proofs.Ytonbhpadoplpkaa
/- The contracts of package big's sizes (nat.go), on: moved down. -/
namespace Go.Proofs.Ytonbhpadoplpkaa
open Go.RowKit Go.Deep

/-! ### right -/
/-- One limb of what is moved down by s bits (below 64). -/
theorem shr_step {x y s : Nat} (hx : x < W64) (hs : s < 64) :
    x / 2 ^ s + y % 2 ^ s * 2 ^ (64 - s) < W64 ∧ (x / 2 ^ s + y % 2 ^ s * 2 ^ (64 - s)) * 2 ^ s + x % 2 ^ s = x + W64 * (y % 2 ^ s) ∧ (x / 2 ^ s ||| y * 2 ^ (64 - s) % W64) = x / 2 ^ s + y % 2 ^ s * 2 ^ (64 - s) := by
  have e64 : W64 = 2 ^ (64 - s) * 2 ^ s := by rw [← Nat.pow_add, show 64 - s + s = 64 by omega, W64_two]
  have hp : 0 < 2 ^ s := Nat.pow_pos (by omega)
  have hm : y * 2 ^ (64 - s) % W64 = 2 ^ (64 - s) * (y % 2 ^ s) := by rw [e64, Nat.mul_comm (2 ^ (64 - s)) (2 ^ s), Nat.mul_mod_mul_right, Nat.mul_comm]
  have h4 : x / 2 ^ s < 2 ^ (64 - s) := Nat.div_lt_of_lt_mul (by rw [Nat.mul_comm, ← e64]; exact hx)
  have hor := Nat.two_pow_add_eq_or_of_lt h4 (y % 2 ^ s)
  have hml := Nat.mod_lt y hp
  have hd := Nat.div_add_mod x (2 ^ s)
  refine ⟨?_, ?_, by rw [hm, Nat.or_comm, ← hor, Nat.mul_comm (y % 2 ^ s), Nat.add_comm]⟩
  · have h5 := Nat.mul_le_mul_left (2 ^ (64 - s)) (show y % 2 ^ s + 1 ≤ 2 ^ s from hml)
    rw [Nat.mul_add, Nat.mul_one, ← e64, Nat.mul_comm (2 ^ (64 - s)) (y % 2 ^ s)] at h5
    omega
  · generalize 2 ^ (64 - s) = P at *
    generalize 2 ^ s = R at *
    generalize x / R = a at *
    generalize x % R = b at *
    rw [← hd, e64]
    grind
/-- What is cut off by s bits: just if the lost bits, moved to the top, are not nought. -/
theorem lost_bits {x s : Nat} (hs : s < 64) : (x * 2 ^ (64 - s) % W64 = 0) ↔ x % 2 ^ s = 0 := by
  have e64 : W64 = 2 ^ s * 2 ^ (64 - s) := by rw [← Nat.pow_add, show s + (64 - s) = 64 by omega, W64_two]
  have hp : 0 < 2 ^ (64 - s) := Nat.pow_pos (by omega)
  rw [e64, Nat.mul_mod_mul_right]
  constructor
  · intro h
    rcases Nat.mul_eq_zero.1 h with h | h
    · exact h
    · omega
  · intro h; rw [h, Nat.zero_mul]

/-- Is something cut off? -/
def lostB (v n : Nat) : Bool := decide (v % 2 ^ n ≠ 0)
/-- What is left when whole limbs and then bits are cut off. -/
theorem cut_off {xs : List Nat} (hs : Small xs) {m s : Nat} (hm : m ≤ xs.length) :
    val xs / (W64 ^ m * 2 ^ s) = val (xs.drop m) / 2 ^ s ∧ (val xs % (W64 ^ m * 2 ^ s) = 0 ↔ val (xs.take m) = 0 ∧ val (xs.drop m) % 2 ^ s = 0) := by
  have h1 := val_split xs m hm
  have h2 := val_lt (hs.take m)
  rw [List.length_take, Nat.min_eq_left hm] at h2
  have hp : 0 < W64 ^ m := Nat.pow_pos W64_pos
  generalize val (xs.take m) = t at *
  generalize val (xs.drop m) = D at *
  generalize W64 ^ m = P at *
  have hq : val xs / P = D := by rw [h1, Nat.add_mul_div_left _ _ hp, Nat.div_eq_of_lt h2, Nat.zero_add]
  have hr : val xs % P = t := by rw [h1, Nat.add_mul_mod_self_left, Nat.mod_eq_of_lt h2]
  refine ⟨by rw [← Nat.div_div_eq_div_mul, hq], ?_⟩
  rw [Nat.mod_mul, hr, hq]
  constructor
  · intro h
    refine ⟨by omega, ?_⟩
    rcases Nat.mul_eq_zero.1 (show P * (D % 2 ^ s) = 0 by omega) with h3 | h3
    · omega
    · exact h3
  · rintro ⟨h3, h4⟩; rw [h3, h4]; simp

set_option maxHeartbeats 1600000 in
set_option maxRecDepth 100000 in
theorem big_right (A1 : Option Addr) (c1 : Nat) (xs : List Nat) (n : Nat) (w : World) {B : Nat} (hB : B ≤ w.heap.size) (h1 : Lim w B A1 xs) (hc : xs.length ≤ c1) (hl : xs.length ≤ 1099511627776) (hn : n < W64) :
    Calls Try.prog 109 #[.slice A1 xs.length c1, .int .u64 (n : Int)] w fun e w' => ∃ A c, e = .returned (.tuple #[.slice A (limbs (val xs / 2 ^ n)).length c, .bool (lostB (val xs) n)]) ∧ (limbs (val xs / 2 ^ n)).length ≤ c ∧ Lim w' w'.heap.size A (limbs (val xs / 2 ^ n)) ∧ Below w.heap.size w w' := by
  obtain ⟨m, s, hn1, hs, hm1, hs1⟩ : ∃ m s, n = 64 * m + s ∧ s < 64 ∧ m = n / 64 ∧ s = n % 64 := ⟨n / 64, n % 64, by omega, by omega, rfl, rfl⟩
  have rk : (n : Int) / 64 = (m : Int) := by omega
  have rs : (n : Int) % 64 = (s : Int) := by omega
  obtain ⟨k, hk⟩ : ∃ k, min m xs.length = k := ⟨_, rfl⟩
  have hkl : k ≤ xs.length := by omega
  have rmin : min (m : Int) (xs.length : Int) = (k : Int) := by omega
  have hlI : (xs.length : Int) ≤ 1099511627776 := by omega
  have hnI := lt_W64 hn
  have HL := Lib.hid hl
  have HP2 := Lib.hid (show 2 ^ n = W64 ^ m * 2 ^ s by rw [hn1, Nat.pow_add, ← W64_pow])
  have HK := Lib.hid hk
  clear hl hn hn1 hm1 hs1 hk
  go_enter Try.func109, Try.ntmps109
  go_wp2_with fail
  go_loop [7, 24] (fun t7 t24 => ∃ i : Nat, i ≤ k ∧ t24 = .int .i64 (i : Int) ∧ t7 = .bool (decide (val (xs.take i) ≠ 0))) (fun _ t24 => k - (intOf t24).toNat)
  case atStart => exact ⟨0, by omega, rfl, by simp⟩
  case round =>
    obtain ⟨i, hi, rfl, rfl⟩ := hrel
    obtain ⟨b, hb⟩ : ∃ b, decide (val (xs.take i) ≠ 0) = b := ⟨_, rfl⟩
    rw [hb]
    have HB := Lib.hid hb
    clear hb
    by_cases hlt : i < k
    · obtain ⟨ad, rfl, hb, hcell⟩ := h1.at_ (k := i) (by omega)
      obtain ⟨x, hx⟩ : ∃ x, xs.getD i 0 = x := ⟨_, rfl⟩
      rw [hx] at hcell
      have hstep := val_take_step xs i
      rw [hx] at hstep
      have HS := Lib.hid hstep
      have HX := Lib.hid hx
      clear hstep hx
      cases b with
      | true =>
        have HN1 := Lib.hid (show decide (val (xs.take (i + 1)) ≠ 0) = true by
          have h := HB.out
          simp only [decide_eq_true_eq] at h ⊢
          rw [HS.out]; omega)
        go_wp2_with fail
        exact ⟨⟨i + 1, by omega, by go_num, by rw [HN1.out]⟩, by simp [intOf]; omega⟩
      | false =>
        have h0 : val (xs.take i) = 0 := by simpa using HB.out
        have H0 := Lib.hid h0
        clear h0
        by_cases hx0 : x = 0
        · subst hx0
          have HN1 := Lib.hid (show decide (val (xs.take (i + 1)) ≠ 0) = false by rw [HS.out, H0.out]; simp)
          go_wp2_with fail
          exact ⟨⟨i + 1, by omega, by go_num, by rw [HN1.out]⟩, by simp [intOf]; omega⟩
        · have t1 : ((x : Int) != 0) = true := by rw [bne_iff_ne]; omega
          have HN1 := Lib.hid (show decide (val (xs.take (i + 1)) ≠ 0) = true by
            rw [HS.out, H0.out, Nat.zero_add]
            simp only [decide_eq_true_eq]
            exact Nat.mul_ne_zero (by have := Nat.pow_pos (n := i) W64_pos; omega) hx0)
          go_wp2_with fail
          exact ⟨⟨i + 1, by omega, by go_num, by rw [HN1.out]⟩, by simp [intOf]; omega⟩
    · obtain rfl : i = k := by omega
      by_cases hkl2 : i < xs.length
      · have hmi : m = i := by have := HK.out; omega
        obtain ⟨ad, rfl, hba, hcell0⟩ := h1.at_ hkl2
        have h2 : Lim w B (some (ad.add i)) (xs.drop i) := by
          have := h1.cut (k := i) hc
          rwa [if_neg (by omega)] at this
        obtain ⟨ly, hly⟩ : ∃ ly, xs.length - i = ly := ⟨_, rfl⟩
        obtain ⟨ys, hys⟩ : ∃ ys, xs.drop i = ys := ⟨_, rfl⟩
        have hyl : ys.length = ly := by rw [← hys, List.length_drop, hly]
        rw [hys] at h2
        obtain ⟨x0, hx0⟩ : ∃ x0, ys.getD 0 0 = x0 := ⟨_, rfl⟩
        have hx0c : xs.getD i 0 = x0 := by rw [← hx0, ← hys]; simp
        rw [hx0c] at hcell0
        have hx0W : x0 < W64 := hx0 ▸ h2.small.getD 0
        obtain ⟨z, hz⟩ : ∃ z, x0 * 2 ^ (64 - s) % W64 = z := ⟨_, rfl⟩
        have ez : IntKind.u64.wrap ((x0 : Int) * 2 ^ (64 - s)) = (z : Int) := by
          have e : (x0 : Int) * 2 ^ (64 - s) = ((x0 * 2 ^ (64 - s) : Nat) : Int) := by simp
          rw [e, wrap_u64_nat, hz]
        have hcut := cut_off (s := s) h1.small (m := i) (by omega)
        rw [hys] at hcut
        have hlost := lost_bits (x := x0) hs
        rw [hz] at hlost
        have hmod : val ys % 2 ^ s = x0 % 2 ^ s := by
          have h3 := val_drop_step ys 0 (by omega)
          rw [List.drop_zero, hx0] at h3
          have e64 : W64 = 2 ^ s * 2 ^ (64 - s) := by rw [← Nat.pow_add, show s + (64 - s) = 64 by omega, W64_two]
          rw [h3, e64, Nat.mul_assoc, Nat.add_mul_mod_self_left]
        have hlB : lostB (val xs) n = (b || decide (z ≠ 0)) := by
          have h4 := HB.out
          unfold lostB
          rw [HP2.out, hmi, ← h4]
          by_cases ha : val (xs.take i) = 0 <;> by_cases hb2 : z = 0 <;> simp [hcut.2, hmod, ha, hb2, ← hlost]
        have HLB := Lib.hid hlB
        have HCUT := Lib.hid (show val xs / 2 ^ n = val ys / 2 ^ s by rw [HP2.out, hmi]; exact hcut.1)
        have HMOD := Lib.hid hmod
        have HX0 := Lib.hid hx0
        have HYL := Lib.hid hyl
        have hlyI : (ly : Int) ≤ 1099511627776 := by omega
        have hly0 : 0 < ly := by omega
        have tl : ((ly : Int) == 0) = false := beq_eq_false_iff_ne.2 (by omega)
        have tc : ¬ c1 = i := by omega
        have hmk := make_limbs ly (by omega)
        clear hlB hcut hlost hmod hx0c hys hyl hx0 hz hmi
        go_upto_region 11 with (fail)
        go_cut [7] (fun t7 wx => w = wx ∧ t7 = .bool (b || decide (z ≠ 0)))
        case first =>
          cases b with
          | true =>
            go_wp2_with fail
            go_meet
            exact ⟨rfl, rfl⟩
          | false =>
            by_cases hz0 : z = 0
            · subst hz0
              go_wp2_with fail
              go_meet
              exact ⟨rfl, rfl⟩
            · have tz : ((z : Int) != 0) = true := by rw [bne_iff_ne]; omega
              go_wp2_with fail
              go_meet
              exact ⟨rfl, by simp [hz0]⟩
        case rest =>
          obtain ⟨rfl, rfl⟩ := hcut
          obtain ⟨lb, hlb⟩ : ∃ lb, (b || decide (z ≠ 0)) = lb := ⟨_, rfl⟩
          rw [hlb]
          have HLB2 := Lib.hid hlb
          clear hlb
          go_wp2_with fail
          go_loopw [57] (fun t57 wr => ∃ (q : Nat) (os : List Nat), q ≤ ly ∧ t57 = .int .i64 (q : Int) ∧ os.length = ly ∧ Row wr w.heap.size os ∧ Below w.heap.size w wr ∧ val (os.take q) * 2 ^ s + x0 % 2 ^ s = val (ys.take q) + W64 ^ q * (ys.getD q 0 % 2 ^ s)) (fun t57 _ => ly - (intOf t57).toNat)
          case atStart => exact ⟨0, List.replicate ly 0, by omega, rfl, by simp, Row.made _ _, (Below.refl _ _).alloc (Nat.le_refl _) _, by rw [HX0.out]; simp⟩
          case round =>
            obtain ⟨q, os, hq, rfl, ho, hrow, hbel, hval⟩ := hrel
            have HV := Lib.hid hval
            have HO := Lib.hid ho
            clear hval ho
            by_cases hlt : q < ly
            · obtain ⟨ad3, had, hb3, hcell⟩ := (h2.below (hbel.mono hB)).at_ (k := q) (by rw [HYL.out]; exact hlt)
              injection had with had
              subst had
              obtain ⟨x, hx⟩ : ∃ x, ys.getD q 0 = x := ⟨_, rfl⟩
              obtain ⟨y, hy⟩ : ∃ y, ys.getD (q + 1) 0 = y := ⟨_, rfl⟩
              have hxW : x < W64 := hx ▸ h2.small.getD q
              rw [hx] at hcell
              obtain ⟨hd1, hd2, hd3⟩ := shr_step (y := y) hxW hs
              have hcg := hrow.cell (k := q) (by rw [HO.out]; omega)
              have hfg := hrow.free q
              have e2 : (x : Int) / 2 ^ s = ((x / 2 ^ s : Nat) : Int) := by simp
              have hxs : x / 2 ^ s < W64 := Nat.lt_of_le_of_lt (Nat.div_le_self _ _) hxW
              have hrow1 := hrow.set (k := q) (x := x / 2 ^ s) (by rw [HO.out]; omega) hxs
              have hbel1 := hbel.setCell (p := ⟨w.heap.size, q, none⟩) (Nat.le_refl _) (.int .u64 ((x / 2 ^ s : Nat) : Int))
              have hgen : val ((os.take q) ++ [x / 2 ^ s + y % 2 ^ s * 2 ^ (64 - s)]) * 2 ^ s + x0 % 2 ^ s = val (ys.take (q + 1)) + W64 ^ (q + 1) * (y % 2 ^ s) := by
                have hV := HV.out
                rw [hx] at hV
                rw [val_snoc, List.length_take, Nat.min_eq_left (by rw [HO.out]; omega), val_take_step ys, hx, Nat.pow_succ]
                generalize x / 2 ^ s + y % 2 ^ s * 2 ^ (64 - s) = d at *
                generalize W64 ^ q = P at *
                have : P * (d * 2 ^ s + x % 2 ^ s) = P * (x + W64 * (y % 2 ^ s)) := by rw [hd2]
                generalize 2 ^ s = R at *
                grind
              by_cases hlast : q + 1 < ly
              · obtain ⟨ad4, had4, hb4, hcell4⟩ := (h2.below (hbel1.mono hB)).at_ (k := q + 1) (by rw [HYL.out]; exact hlast)
                injection had4 with had4
                subst had4
                rw [hy, add_succ] at hcell4
                have hyW : y < W64 := hy ▸ h2.small.getD (q + 1)
                have hcg1 := hrow1.cell (k := q) (by rw [List.length_set, HO.out]; omega)
                have hfg1 := hrow1.free q
                have e3 : (os.set q (x / 2 ^ s)).getD q 0 = x / 2 ^ s := by simp [show q < os.length by rw [HO.out]; omega]
                rw [e3] at hcg1
                have e4 : bits .or .u64 ((x / 2 ^ s : Nat) : Int) (IntKind.u64.wrap ((y : Int) * 2 ^ (64 - s))) = ((x / 2 ^ s + y % 2 ^ s * 2 ^ (64 - s) : Nat) : Int) := by
                  have e : (y : Int) * 2 ^ (64 - s) = ((y * 2 ^ (64 - s) : Nat) : Int) := by simp
                  rw [e, wrap_u64_nat, u64_or_nat _ _ (by rw [← W64_eq]; exact hxs) (by rw [← W64_eq]; exact Nat.mod_lt _ W64_pos), hd3]
                have hrow2 := hrow1.set (k := q) (x := x / 2 ^ s + y % 2 ^ s * 2 ^ (64 - s)) (by rw [List.length_set, HO.out]; omega) hd1
                have hbel2 := hbel1.setCell (p := ⟨w.heap.size, q, none⟩) (Nat.le_refl _) (.int .u64 ((x / 2 ^ s + y % 2 ^ s * 2 ^ (64 - s) : Nat) : Int))
                have HD := Lib.hid (And.intro hd2 hd3)
                have HX := Lib.hid hx
                have HY := Lib.hid hy
                have HG := Lib.hid hgen
                clear hd2 hd3 hx hy e3 hgen
                generalize x / 2 ^ s + y % 2 ^ s * 2 ^ (64 - s) = d at *
                generalize x / 2 ^ s = xl at *
                have hlI2 : ((q : Int) + 1) < (ly : Int) := by omega
                have q0 : (0 : Int) ≤ (q : Int) := by omega
                have q1 : (q : Int) < (ly : Int) := by omega
                have q2 : (0 : Int) ≤ (q : Int) + 1 := by omega
                go_wp2_with fail
                generalize hWe : wr.setCell ⟨w.heap.size, q, none⟩ (.int .u64 (xl : Int)) = W1 at *
                have HWE := Lib.hid hWe
                clear hWe
                go_region
                go_wp2_with fail
                exact ⟨⟨q + 1, (os.set q xl).set q d, by omega, by go_num, by rw [List.length_set, List.length_set, HO.out], hrow2.of_block rfl, hbel2.drew, by
                  rw [take_set_succ _ _ _ (by rw [List.length_set, HO.out]; omega), List.take_set_of_le (Nat.le_refl q), HY.out]; exact HG.out⟩, by simp [intOf]; omega⟩
              · have hql : q + 1 = ly := by omega
                have hy0 : y = 0 := by rw [← hy]; simp [show ys.length ≤ q + 1 by rw [HYL.out]; omega]
                subst hy0
                rw [Nat.zero_mod, Nat.zero_mul, Nat.add_zero] at hgen
                have HG := Lib.hid hgen
                have HY := Lib.hid hy
                have HX := Lib.hid hx
                have HD := Lib.hid (And.intro hd2 hd3)
                have hlI2 : ¬ ((q : Int) + 1) < (ly : Int) := by omega
                clear hd2 hd3 hx hy hgen hql
                generalize x / 2 ^ s = xl at *
                go_wp2_with fail
                exact ⟨⟨q + 1, os.set q xl, by omega, by go_num, by rw [List.length_set, HO.out], hrow1, hbel1, by
                  rw [take_set_succ _ _ _ (by rw [HO.out]; omega), HY.out]; exact HG.out⟩, by simp [intOf]; omega⟩
            · obtain rfl : q = ly := by omega
              have HF := Lib.hid (show val os = val ys / 2 ^ s by
                have hV := HV.out
                rw [List.take_of_length_le (by rw [HO.out]; omega), List.take_of_length_le (by rw [HYL.out]; omega), show ys.getD q 0 = 0 by simp [show ys.length ≤ q by rw [HYL.out]; omega], Nat.zero_mod, Nat.mul_zero, Nat.add_zero] at hV
                have hlt2 : x0 % 2 ^ s < 2 ^ s := Nat.mod_lt _ (Nat.pow_pos (by omega))
                rw [← hV, Nat.mul_comm, Nat.mul_add_div (Nat.pow_pos (by omega)), Nat.div_eq_of_lt hlt2]; rfl)
              go_wp2_with fail
              rw [← HO.out]
              refine (big_trim _ _ _ _ (hrow.lim (B := w.heap.size + 1) (by omega)) (Nat.le_refl _) (by rw [HO.out]; omega)).mono ?_
              rintro e w1 ⟨rfl, rfl⟩
              rw [HF.out]
              go_wp2_with fail
              go_ret2
              have hl3 := limbs_val_le hrow.small
              rw [HF.out] at hl3
              have hlim := (hrow.lim (B := w.heap.size + 1) (by omega)).trim.more hrow.lt
              rw [HF.out] at hlim
              exact ⟨_, _, by rw [HLB.out, HLB2.out, HCUT.out]; rfl, by rw [HCUT.out]; exact hl3, by rw [HCUT.out]; exact hlim, hbel⟩
      · obtain rfl : i = xs.length := by omega
        have hv0 : val xs < 2 ^ n := by
          rw [HP2.out]
          have h3 := val_lt h1.small
          have h4 : W64 ^ xs.length ≤ W64 ^ m := Nat.pow_le_pow_right W64_pos (by have := HK.out; omega)
          have h5 : W64 ^ m * 1 ≤ W64 ^ m * 2 ^ s := Nat.mul_le_mul_left _ (Nat.pow_pos (by omega))
          omega
        have HE := Lib.hid (show limbs (val xs / 2 ^ n) = [] by rw [Nat.div_eq_of_lt hv0, limbs_zero])
        have HLB := Lib.hid (show lostB (val xs) n = b by
          unfold lostB
          have h4 := HB.out
          rw [List.take_length] at h4
          rw [Nat.mod_eq_of_lt hv0, h4])
        go_wp2_with fail
        all_goals go_ret2
        all_goals exact ⟨none, 0, by rw [HE.out, HLB.out]; rfl, by rw [HE.out]; simp, by rw [HE.out]; exact Lim.nil _ _ _, Below.refl _ _⟩
end Go.Proofs.Ytonbhpadoplpkaa
