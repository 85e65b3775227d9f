import Derived.Test.YtonbhpadoplpkaaNum
/- Plain laws of whole roots: the greatest number whose n-th power is not above a number; going down to it (Newton); bit by bit; powers. -/
namespace Go.Proofs.Ytonbhpadoplpkaa
/-- The greatest number up to a bound whose n-th power is not above a. -/
def irootTo (n a : Nat) : Nat → Nat
  | 0 => 0
  | r + 1 => if (r + 1) ^ n ≤ a then r + 1 else irootTo n a r
def iroot (n a : Nat) : Nat := irootTo n a a
theorem irootTo_pow {n a : Nat} (hn : 1 ≤ n) : ∀ b, (irootTo n a b) ^ n ≤ a
  | 0 => by show 0 ^ n ≤ a; rw [Nat.zero_pow hn]; exact Nat.zero_le _
  | r + 1 => by
    unfold irootTo
    split
    · assumption
    · exact irootTo_pow hn r
theorem irootTo_max {n a : Nat} : ∀ b r, r ≤ b → r ^ n ≤ a → r ≤ irootTo n a b
  | 0, r, h, _ => by show r ≤ 0; exact h
  | b + 1, r, h, hr => by
    unfold irootTo
    split
    · exact h
    · rename_i hne
      by_cases e : r = b + 1
      · subst e; exact absurd hr hne
      · exact irootTo_max b r (by omega) hr
theorem rle_pow_of {n r : Nat} (hn : 1 ≤ n) : r ≤ r ^ n := by
  rcases Nat.eq_zero_or_pos r with h | h
  · omega
  · have := Nat.pow_le_pow_right h hn
    rwa [Nat.pow_one] at this
theorem iroot_pow {n : Nat} (hn : 1 ≤ n) (a : Nat) : iroot n a ^ n ≤ a := irootTo_pow hn a
theorem iroot_max {n a r : Nat} (hn : 1 ≤ n) (h : r ^ n ≤ a) : r ≤ iroot n a := irootTo_max a r (Nat.le_trans (rle_pow_of hn) h) h
theorem iroot_lt {n : Nat} (hn : 1 ≤ n) (a : Nat) : a < (iroot n a + 1) ^ n := by
  refine Nat.lt_of_not_le fun h => ?_
  have := iroot_max hn h
  omega
theorem pow_lt_of {n a b : Nat} (hn : 1 ≤ n) (h : a < b) : a ^ n < b ^ n := Nat.pow_lt_pow_left h (by omega)
theorem lt_of_pow_lt {n a b : Nat} (h : a ^ n < b ^ n) : a < b := by
  refine Nat.lt_of_not_le fun h2 => ?_
  have := Nat.pow_le_pow_left h2 n
  omega
theorem pow_inj_of {n a b : Nat} (hn : 1 ≤ n) (h : a ^ n = b ^ n) : a = b := by
  rcases Nat.lt_trichotomy a b with h1 | h1 | h1
  · have := pow_lt_of hn h1; omega
  · exact h1
  · have := pow_lt_of hn h1; omega
theorem iroot_eq {n a r : Nat} (hn : 1 ≤ n) (h1 : r ^ n ≤ a) (h2 : a < (r + 1) ^ n) : iroot n a = r := by
  have h3 := iroot_max hn h1
  have h4 : iroot n a < r + 1 := lt_of_pow_lt (Nat.lt_of_le_of_lt (iroot_pow hn a) h2)
  omega
theorem iroot_zero {n : Nat} (hn : 1 ≤ n) : iroot n 0 = 0 := iroot_eq hn (by rw [Nat.zero_pow hn]; omega) (by simp)
theorem iroot_one (a : Nat) : iroot 1 a = a := iroot_eq (by omega) (by simp) (by simp)
theorem iroot_of_pow {n : Nat} (hn : 1 ≤ n) (b : Nat) : iroot n (b ^ n) = b := iroot_eq hn (Nat.le_refl _) (pow_lt_of hn (by omega))
theorem iroot_mono {n a b : Nat} (hn : 1 ≤ n) (h : a ≤ b) : iroot n a ≤ iroot n b := iroot_max hn (Nat.le_trans (iroot_pow hn a) h)
theorem iroot_le {n : Nat} (hn : 1 ≤ n) (a : Nat) : iroot n a ≤ a := Nat.le_trans (rle_pow_of hn) (iroot_pow hn a)
/-- Of one more the root is at most one more. -/
theorem iroot_step {n : Nat} (hn : 1 ≤ n) (a : Nat) : iroot n (a + 1) ≤ iroot n a + 1 := by
  refine Nat.le_of_lt_succ (lt_of_pow_lt (n := n) (Nat.lt_of_le_of_lt (iroot_pow hn (a + 1)) ?_))
  have h1 := iroot_lt hn a
  have h2 := pow_lt_of hn (show iroot n a + 1 < iroot n a + 1 + 1 by omega)
  show a + 1 < (iroot n a + 1 + 1) ^ n
  omega
theorem iroot_pos {n a : Nat} (hn : 1 ≤ n) (h : 1 ≤ a) : 1 ≤ iroot n a := iroot_max hn (by rw [Nat.one_pow]; exact h)
/-- With no fewer powers than bits it is 1. -/
theorem iroot_few {n a : Nat} (hn : 1 ≤ n) (ha : 1 ≤ a) (h : nbits a ≤ n) : iroot n a = 1 :=
  iroot_eq hn (by rw [Nat.one_pow]; exact ha) (nbits_le.1 h)
theorem iroot_start {n a : Nat} (hn : 1 ≤ n) : a < (2 ^ (nbits a / n + 1)) ^ n := by
  rw [← Nat.pow_mul]
  refine Nat.lt_of_lt_of_le (lt_nbits a) (Nat.pow_le_pow_right (by omega) ?_)
  have h1 := Nat.div_add_mod (nbits a) n
  have h2 := Nat.mod_lt (nbits a) hn
  rw [Nat.add_mul, Nat.one_mul, Nat.mul_comm]
  omega
/-! ### Newton -/
theorem pow_cross {x r : Nat} (n : Nat) (h : r ≤ x) : r ^ n * x + r * x ^ n ≤ r ^ n * r + x ^ n * x := by
  have h2 := Nat.pow_le_pow_left h n
  obtain ⟨d, rfl⟩ := Nat.exists_eq_add_of_le h
  generalize r ^ n = P at *
  generalize (r + d) ^ n = Q at *
  obtain ⟨e, rfl⟩ := Nat.exists_eq_add_of_le h2
  have : 0 ≤ e * d := Nat.zero_le _
  have e1 : P * (r + d) + r * (P + e) + e * d = P * r + (P + e) * (r + d) := by grind
  omega
theorem pow_mean {x r : Nat} (h : r ≤ x) : ∀ n, (n + 1) * (r * x ^ n) ≤ r ^ n * r + n * (x ^ n * x)
  | 0 => by simp
  | n + 1 => by
    have ih := Nat.mul_le_mul_right x (pow_mean h n)
    have hc := pow_cross (n + 1) h
    rw [Nat.pow_succ, Nat.pow_succ] at hc ⊢
    generalize r ^ n = P at *
    generalize x ^ n = Q at *
    have e1 : (n + 1) * (r * Q) * x = (n + 1) * (r * (Q * x)) := by grind
    have e2 : (P * r + n * (Q * x)) * x = P * r * x + n * (Q * x * x) := by grind
    have e3 : (n + 1 + 1) * (r * (Q * x)) = (n + 1) * (r * (Q * x)) + r * (Q * x) := by grind
    have e4 : (n + 1) * (Q * x * x) = n * (Q * x * x) + Q * x * x := by grind
    rw [e1, e2] at ih
    rw [e3, e4]
    omega
/-- The next guess of Newton is not below the root. -/
theorem newton_ge {a x r n : Nat} (h : r ≤ x) (hx : 0 < x) (hr : r ^ (n + 1) ≤ a) : r ≤ (a / x ^ n + x * n) / (n + 1) := by
  rw [Nat.le_div_iff_mul_le (by omega)]
  by_cases hc : r * (n + 1) ≤ x * n
  · exact Nat.le_trans hc (Nat.le_add_left _ _)
  · have h1 := pow_mean h n
    rw [Nat.pow_succ] at hr
    have hp : 0 < x ^ n := Nat.pow_pos hx
    have h2 : r * (n + 1) - x * n ≤ a / x ^ n := by
      rw [Nat.le_div_iff_mul_le hp, Nat.sub_mul]
      have e1 : (n + 1) * (r * x ^ n) = r * (n + 1) * x ^ n := by generalize x ^ n = Q; grind
      have e2 : n * (x ^ n * x) = x * n * x ^ n := by generalize x ^ n = Q; grind
      rw [e1, e2] at h1
      omega
    omega
/-- Where it is not below the last guess, that one is the root. -/
theorem newton_stop {a x n : Nat} (hx : 0 < x) (h : x ≤ (a / x ^ n + x * n) / (n + 1)) : x ^ (n + 1) ≤ a := by
  rw [Nat.le_div_iff_mul_le (by omega), Nat.mul_add] at h
  have hp : 0 < x ^ n := Nat.pow_pos hx
  have h2 : x ≤ a / x ^ n := by omega
  rw [Nat.le_div_iff_mul_le hp] at h2
  rw [Nat.pow_succ, Nat.mul_comm]
  exact h2
/-! ### bit by bit -/
/-- Behind the bits from i on: r is a multiple of 2^i, r^n is not above a, (r + 2^i)^n is. -/
structure Bitwise (a n i r : Nat) : Prop where
  mult : 2 ^ i ∣ r
  low : r ^ n ≤ a
  high : a < (r + 2 ^ i) ^ n
theorem Bitwise.start {a n i : Nat} (hn : 1 ≤ n) (h : a < (2 ^ i) ^ n) : Bitwise a n i 0 := ⟨⟨0, by simp⟩, by rw [Nat.zero_pow hn]; omega, by rwa [Nat.zero_add]⟩
theorem Bitwise.up {a n i r : Nat} (h : Bitwise a n (i + 1) r) (hf : (r + 2 ^ i) ^ n ≤ a) : Bitwise a n i (r + 2 ^ i) := by
  refine ⟨Nat.dvd_add (Nat.dvd_trans (Nat.pow_dvd_pow 2 (by omega)) h.mult) (Nat.dvd_refl _), hf, ?_⟩
  have h1 := h.high
  rw [Nat.pow_succ] at h1
  rwa [show r + 2 ^ i + 2 ^ i = r + 2 ^ i * 2 by omega]
theorem Bitwise.stay {a n i r : Nat} (h : Bitwise a n (i + 1) r) (hf : ¬ (r + 2 ^ i) ^ n ≤ a) : Bitwise a n i r :=
  ⟨Nat.dvd_trans (Nat.pow_dvd_pow 2 (by omega)) h.mult, h.low, by omega⟩
theorem Bitwise.root {a n r : Nat} (hn : 1 ≤ n) (h : Bitwise a n 0 r) : iroot n a = r := iroot_eq hn h.low h.high
theorem bit_zero {i r : Nat} (h : 2 ^ (i + 1) ∣ r) : r / 2 ^ i % 2 = 0 := by
  obtain ⟨q, rfl⟩ := h
  rw [Nat.pow_succ, Nat.mul_assoc, Nat.mul_div_cancel_left _ (Nat.pow_pos (by omega))]
  omega
theorem bit_one {i r : Nat} (h : 2 ^ (i + 1) ∣ r) : (r + 2 ^ i) / 2 ^ i % 2 = 1 := by
  obtain ⟨q, rfl⟩ := h
  rw [Nat.pow_succ, Nat.mul_assoc, Nat.add_comm, Nat.add_mul_div_left _ _ (Nat.pow_pos (by omega)), Nat.div_self (Nat.pow_pos (by omega))]
  omega
/-! ### one number as a power in two ways -/
theorem pow_gt_one {z k : Nat} (hz : 2 ≤ z) : 2 ^ k ≤ z ^ k := Nat.pow_le_pow_left hz k
theorem two_le_of_pow {x z k : Nat} (h : z ^ k = x) (hx : 2 ≤ x) : 2 ≤ z := by
  rcases Nat.lt_or_ge z 2 with h2 | h2
  · exfalso
    have : z ^ k ≤ 1 := by
      have := Nat.pow_le_pow_left (show z ≤ 1 by omega) k
      rwa [Nat.one_pow] at this
    omega
  · exact h2
theorem bezout_turn {m k x y : Nat} (hm : 1 ≤ m) (hk : 1 ≤ k) (h : x * k = 1 + y * m) : ∃ u v : Nat, u * m = 1 + v * k := by
  obtain ⟨t, ht⟩ : ∃ t, t = x + y + 1 := ⟨_, rfl⟩
  have h1 : x ≤ t * m := Nat.le_trans (show x ≤ t by omega) (Nat.le_mul_of_pos_right _ hm)
  have h2 : y ≤ t * k := Nat.le_trans (show y ≤ t by omega) (Nat.le_mul_of_pos_right _ hk)
  refine ⟨t * k - y, t * m - x, ?_⟩
  rw [Nat.sub_mul, Nat.sub_mul]
  have h3 : y * m ≤ t * k * m := Nat.mul_le_mul_right _ h2
  have h4 : x * k ≤ t * m * k := Nat.mul_le_mul_right _ h1
  have h5 : t * k * m = t * m * k := by grind
  omega
theorem bezout_of (k m : Nat) (hm : 1 ≤ m) (hk : 1 ≤ k) (hc : Nat.Coprime m k) : ∃ u v : Nat, u * m = 1 + v * k := by
  induction m using Nat.strongRecOn generalizing k with
  | _ m ih =>
    by_cases h1 : m = 1
    · subst h1; exact ⟨1, 0, by simp⟩
    · have hs : Nat.Coprime (k % m) m := by
        unfold Nat.Coprime at hc ⊢
        rw [← Nat.gcd_rec]; exact hc
      have hs1 : 1 ≤ k % m := by
        rcases Nat.eq_zero_or_pos (k % m) with h0 | h0
        · rw [h0] at hs
          unfold Nat.Coprime at hs
          rw [Nat.gcd_zero_left] at hs
          exact absurd hs h1
        · exact h0
      obtain ⟨u, v, huv⟩ := ih (k % m) (Nat.mod_lt _ hm) m hs1 hm hs
      refine bezout_turn hm hk (x := u) (y := v + u * (k / m)) ?_
      have h2 := Nat.div_add_mod k m
      generalize k / m = q at *
      generalize k % m = s at *
      subst h2
      rw [Nat.add_mul, Nat.mul_add, huv]
      grind
/-- x to the power m is y to the power k, and m, k have no common divisor: both are powers of one. -/
theorem pow_common {x y m k : Nat} (hm : 1 ≤ m) (hk : 1 ≤ k) (hc : Nat.Coprime m k) (h : x ^ m = y ^ k) : ∃ z, z ^ k = x ∧ z ^ m = y := by
  rcases Nat.eq_zero_or_pos x with hx | hx
  · subst hx
    rw [Nat.zero_pow hm] at h
    have hy : y = 0 := by
      rcases Nat.eq_zero_or_pos y with h0 | h0
      · exact h0
      · have := Nat.pow_pos (n := k) h0; omega
    exact ⟨0, by rw [Nat.zero_pow hk], by rw [Nat.zero_pow hm, hy]⟩
  · obtain ⟨u, v, huv⟩ := bezout_of k m hm hk hc
    have h1 : (y ^ u) ^ k = x * (x ^ v) ^ k := by
      rw [← Nat.pow_mul, Nat.mul_comm u k, Nat.pow_mul, ← h, ← Nat.pow_mul, Nat.mul_comm m u, huv, Nat.pow_add, Nat.pow_one, ← Nat.pow_mul]
    have h2 : x ^ v ∣ y ^ u := (Nat.pow_dvd_pow_iff (n := k) (by omega)).1 ⟨x, by rw [h1, Nat.mul_comm]⟩
    obtain ⟨z, hz⟩ := h2
    have h3 : z ^ k = x := by
      rw [hz, Nat.mul_pow, Nat.mul_comm] at h1
      exact Nat.eq_of_mul_eq_mul_right (Nat.pow_pos (Nat.pow_pos hx)) h1
    refine ⟨z, h3, pow_inj_of hk ?_⟩
    rw [← Nat.pow_mul, Nat.mul_comm m k, Nat.pow_mul, h3, h]
/-! ### perfect powers -/
/-- The exponents that may be. -/
def okE (neg : Bool) (q : Nat) : Prop := neg = true → q % 2 = 1
theorem okE_mul {neg : Bool} {p q : Nat} (h : okE neg p) (k : okE neg q) : okE neg (p * q) := fun hn => by
  rw [Nat.mul_mod, h hn, k hn]
theorem okE_dvd {neg : Bool} {p q : Nat} (h : okE neg q) (hd : p ∣ q) : okE neg p := fun hn => by
  have h1 := h hn
  obtain ⟨c, rfl⟩ := hd
  rcases Nat.mod_two_eq_zero_or_one p with h2 | h2
  · rw [Nat.mul_mod, h2, Nat.zero_mul] at h1
    exact absurd h1 (by decide)
  · exact h2
/-- x to the power n is a, and x is no power that may be. -/
structure Perf (neg : Bool) (a x n : Nat) : Prop where
  pow : x ^ n = a
  pos : 1 ≤ n
  ok : okE neg n
  none : ∀ q, 2 ≤ q → okE neg q → ∀ z, z ^ q ≠ x
/-- Every exponent that a is a power with divides the one. -/
theorem Perf.divides {neg : Bool} {a x n : Nat} (h : Perf neg a x n) {y k : Nat} (hk : 1 ≤ k) (ho : okE neg k) (hy : y ^ k = a) : ∃ j, n = k * j ∧ y = x ^ j := by
  obtain ⟨d, hd⟩ : ∃ d, Nat.gcd n k = d := ⟨_, rfl⟩
  have hd0 : 0 < d := by rw [← hd]; exact Nat.gcd_pos_of_pos_right _ hk
  obtain ⟨n', hn'⟩ : d ∣ n := hd ▸ Nat.gcd_dvd_left n k
  obtain ⟨k', hk'⟩ : d ∣ k := hd ▸ Nat.gcd_dvd_right n k
  have hc : Nat.Coprime n' k' := by
    unfold Nat.Coprime
    have h1 : d * Nat.gcd n' k' = d * 1 := by rw [← Nat.gcd_mul_left, ← hn', ← hk', hd, Nat.mul_one]
    exact Nat.eq_of_mul_eq_mul_left hd0 h1
  have hn1 : 1 ≤ n' := by
    have := h.pos
    rcases Nat.eq_zero_or_pos n' with h0 | h0
    · subst h0; simp at hn'; omega
    · exact h0
  have hk1 : 1 ≤ k' := by
    rcases Nat.eq_zero_or_pos k' with h0 | h0
    · subst h0; simp at hk'; omega
    · exact h0
  have he : x ^ n' = y ^ k' := by
    refine pow_inj_of hd0 ?_
    rw [← Nat.pow_mul, ← Nat.pow_mul, Nat.mul_comm n' d, Nat.mul_comm k' d, ← hn', ← hk', h.pow, hy]
  obtain ⟨z, h1, h2⟩ := pow_common hn1 hk1 hc he
  by_cases hk2 : k' = 1
  · subst hk2
    rw [Nat.mul_one] at hk'
    subst hk'
    rw [Nat.pow_one] at h1 he
    exact ⟨n', hn', he.symm⟩
  · exact absurd h1 (h.none k' (by omega) (okE_dvd ho ⟨d, by rw [hk', Nat.mul_comm]⟩) z)
/-- The greatest exponent is the one. -/
theorem Perf.only {neg : Bool} {a x n : Nat} (h : Perf neg a x n) {y k : Nat} (hk : 1 ≤ k) (ho : okE neg k) (hy : y ^ k = a) (hmax : ∀ q, k < q → okE neg q → ∀ z, z ^ q ≠ a) : k = n ∧ y = x := by
  obtain ⟨j, h1, h2⟩ := h.divides hk ho hy
  have hp := h.pos
  rcases Nat.lt_trichotomy j 1 with hj | hj | hj
  · obtain rfl : j = 0 := by omega
    rw [Nat.mul_zero] at h1
    omega
  · subst hj
    rw [Nat.mul_one] at h1
    rw [Nat.pow_one] at h2
    exact ⟨h1.symm, h2⟩
  · exfalso
    refine hmax n ?_ h.ok x h.pow
    rw [h1]
    have := Nat.mul_le_mul_left k (show 2 ≤ j by omega)
    omega
/-- The loop over the exponents: below p there is none left. -/
structure PStep (neg : Bool) (a p x n : Nat) : Prop where
  pow : x ^ n = a
  pos : 1 ≤ n
  ok : okE neg n
  two : 2 ≤ x
  none : ∀ q, 2 ≤ q → q < p → okE neg q → ∀ z, z ^ q ≠ x
theorem PStep.start {neg : Bool} {a : Nat} (ha : 2 ≤ a) : PStep neg a 0 a 1 := ⟨Nat.pow_one a, Nat.le_refl _, fun _ => rfl, ha, fun q h1 h2 => by omega⟩
theorem PStep.skip {neg : Bool} {a p x n : Nat} (h : PStep neg a p x n) (hp : p < 2 ∨ ¬ okE neg p) : PStep neg a (p + 1) x n :=
  ⟨h.pow, h.pos, h.ok, h.two, fun q h1 h2 h3 => by
    by_cases e : q = p
    · subst e
      rcases hp with hp | hp
      · omega
      · exact absurd h3 hp
    · exact h.none q h1 (by omega) h3⟩
theorem PStep.down {neg : Bool} {a p x n r : Nat} (h : PStep neg a p x n) (hp : 2 ≤ p) (ho : okE neg p) (hr : r ^ p = x) : PStep neg a p r (n * p) :=
  ⟨by rw [Nat.mul_comm, Nat.pow_mul, hr, h.pow], Nat.mul_pos h.pos (by omega), okE_mul h.ok ho, two_le_of_pow hr h.two, fun q h1 h2 h3 z hz =>
    h.none q h1 h2 h3 (z ^ p) (by rw [← Nat.pow_mul, Nat.mul_comm p q, Nat.pow_mul, hz, hr])⟩
theorem pow_bits {z q x : Nat} (h : z ^ q = x) (hx : 2 ≤ x) : q < nbits x := by
  have h1 := two_le_of_pow h hx
  have h2 := pow_gt_one (k := q) h1
  rw [h] at h2
  refine Nat.lt_of_not_le fun h3 => ?_
  rw [nbits_le] at h3
  omega
theorem PStep.next {neg : Bool} {a p x n : Nat} (h : PStep neg a p x n) (hp : 1 ≤ p) (hr : nbits x ≤ p ∨ iroot p x ^ p ≠ x) : PStep neg a (p + 1) x n :=
  ⟨h.pow, h.pos, h.ok, h.two, fun q h1 h2 h3 z hz => by
    by_cases e : q = p
    · subst e
      rcases hr with hr | hr
      · have := pow_bits hz h.two
        omega
      · subst hz
        rw [iroot_of_pow hp] at hr
        exact hr rfl
    · exact h.none q h1 (by omega) h3 z hz⟩
theorem PStep.le {neg : Bool} {a p x n : Nat} (h : PStep neg a p x n) : x ≤ a := by
  rw [← h.pow]; exact rle_pow_of h.pos
theorem PStep.perf {neg : Bool} {a p x n : Nat} (h : PStep neg a p x n) (hp : nbits a ≤ p) : Perf neg a x n :=
  ⟨h.pow, h.pos, h.ok, fun q h1 h2 z hz => by
    by_cases hq : q < p
    · exact h.none q h1 hq h2 z hz
    · have h3 := pow_bits hz h.two
      have h4 := nbits_mono h.le
      omega⟩
theorem PStep.exp_lt {neg : Bool} {a p x n : Nat} (h : PStep neg a p x n) : n < nbits a := by
  have h1 := pow_gt_one (k := n) h.two
  rw [h.pow] at h1
  refine Nat.lt_of_not_le fun h3 => ?_
  rw [nbits_le] at h3
  omega
end Go.Proofs.Ytonbhpadoplpkaa
