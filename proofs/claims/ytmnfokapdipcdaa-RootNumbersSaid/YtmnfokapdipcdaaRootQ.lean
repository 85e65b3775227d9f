import Derived.Test.YtmnfokapdipcdaaRoot5
/- Whole roots: they rise; what is put to a power; plain. -/
namespace Go.Proofs.Ytmnfokapdipcdaa
/-- The root, rounded up. -/
def croot (n m : Nat) : Nat := if iroot n m ^ n < m then iroot n m + 1 else iroot n m
theorem croot_ge {n : Nat} (hn : 1 ≤ n) (m : Nat) : m ≤ croot n m ^ n := by
  unfold croot
  split
  · exact Nat.le_of_lt (iroot_lt hn m)
  · omega
theorem croot_min {n m c : Nat} (hn : 1 ≤ n) (h : m ≤ c ^ n) : croot n m ≤ c := by
  unfold croot
  split
  · rename_i h1
    exact lt_of_pow_lt (n := n) (by omega)
  · exact (Nat.pow_le_pow_iff_left (by omega)).1 (Nat.le_trans (iroot_pow hn m) h)
theorem croot_mono {n a b : Nat} (hn : 1 ≤ n) (h : a ≤ b) : croot n a ≤ croot n b := croot_min hn (Nat.le_trans h (croot_ge hn b))
theorem croot_zero {n : Nat} (hn : 1 ≤ n) : croot n 0 = 0 := Nat.le_zero.1 (croot_min hn (Nat.zero_le _))
theorem croot_one {n : Nat} (hn : 1 ≤ n) : croot n 1 = 1 := by
  have h1 : croot n 1 ≤ 1 := croot_min hn (by simp)
  have h2 := croot_ge hn 1
  rcases Nat.eq_zero_or_pos (croot n 1) with h | h
  · rw [h, Nat.zero_pow hn] at h2; omega
  · omega
theorem pow_succ_ge {c n : Nat} (hn : 1 ≤ n) : c ^ n + 1 ≤ (c + 1) ^ n := pow_lt_of hn (by omega)
theorem croot_step {n : Nat} (hn : 1 ≤ n) (m : Nat) : croot n (m + 1) ≤ croot n m + 1 :=
  croot_min hn (by have := croot_ge hn m; have := pow_succ_ge (c := croot n m) hn; omega)
theorem croot_pos {n m : Nat} (hn : 1 ≤ n) (h : 1 ≤ m) : 1 ≤ croot n m := by
  have := croot_mono hn h
  rwa [croot_one hn] at this
theorem croot_below {n m : Nat} (hn : 1 ≤ n) (h : 1 ≤ m) : (croot n m - 1) ^ n < m := by
  rcases Nat.lt_or_ge ((croot n m - 1) ^ n) m with h1 | h1
  · exact h1
  · have := croot_min hn h1
    have := croot_pos hn h
    omega
theorem croot_le {n m : Nat} : croot n m ≤ iroot n m + 1 := by unfold croot; split <;> omega
theorem rootZ_pos {n : Nat} {z : Int} (h : 0 ≤ z) : rootZ n z = (iroot n z.natAbs : Nat) := by unfold rootZ; rw [if_pos h]
theorem rootZ_neg {n : Nat} {z : Int} (h : z < 0) : rootZ n z = -((croot n z.natAbs : Nat) : Int) := by unfold rootZ croot; rw [if_neg (by omega)]
theorem rootZ_mono {n : Nat} (hn : 1 ≤ n) {x y : Int} (h : x ≤ y) : rootZ n x ≤ rootZ n y := by
  by_cases hx : 0 ≤ x
  · rw [rootZ_pos hx, rootZ_pos (by omega)]
    have := iroot_mono hn (show x.natAbs ≤ y.natAbs by omega)
    omega
  · rw [rootZ_neg (by omega)]
    by_cases hy : 0 ≤ y
    · rw [rootZ_pos hy]; omega
    · rw [rootZ_neg (by omega)]
      have := croot_mono hn (show y.natAbs ≤ x.natAbs by omega)
      omega
theorem rootZ_step {n : Nat} (hn : 1 ≤ n) (z : Int) : rootZ n (z + 1) - rootZ n z = 0 ∨ rootZ n (z + 1) - rootZ n z = 1 := by
  by_cases hz : 0 ≤ z
  · rw [rootZ_pos hz, rootZ_pos (by omega), show (z + 1).natAbs = z.natAbs + 1 by omega]
    have h1 := iroot_mono hn (show z.natAbs ≤ z.natAbs + 1 by omega)
    have h2 := iroot_step hn z.natAbs
    omega
  · rw [rootZ_neg (z := z) (by omega)]
    by_cases h1 : z = -1
    · subst h1
      rw [show (-1 : Int) + 1 = 0 by omega, rootZ_pos (Int.le_refl 0), show (-1 : Int).natAbs = 1 by rfl, show (0 : Int).natAbs = 0 by rfl, iroot_zero hn, croot_one hn]
      omega
    · rw [rootZ_neg (by omega), show z.natAbs = (z + 1).natAbs + 1 by omega]
      have h2 := croot_mono hn (show (z + 1).natAbs ≤ (z + 1).natAbs + 1 by omega)
      have h3 := croot_step hn (z + 1).natAbs
      omega
theorem neg_pow_odd (a : Int) {n : Nat} (ho : n % 2 = 1) : (-a) ^ n = -(a ^ n) := by
  obtain ⟨k, rfl⟩ : ∃ k, n = 2 * k + 1 := ⟨n / 2, by omega⟩
  rw [Int.pow_succ, Int.pow_succ, Int.pow_mul, Int.pow_mul, show (-a) ^ 2 = a ^ 2 by rw [Int.pow_succ, Int.pow_succ, Int.pow_succ, Int.pow_succ, Int.pow_zero, Int.pow_zero, Int.one_mul, Int.one_mul, Int.neg_mul_neg]]
  rw [Int.mul_neg]
/-- The root to the power n is not above, the next one is. -/
theorem rootZ_pow {n : Nat} (hn : 1 ≤ n) {z : Int} (ho : z < 0 → n % 2 = 1) : rootZ n z ^ n ≤ z ∧ z < (rootZ n z + 1) ^ n := by
  by_cases hz : 0 ≤ z
  · rw [rootZ_pos hz]
    have h1 := iroot_pow hn z.natAbs
    have h2 := iroot_lt hn z.natAbs
    constructor
    · rw [← Int.natCast_pow]; omega
    · rw [← Int.natCast_one, ← Int.natCast_add, ← Int.natCast_pow]; omega
  · have hodd := ho (by omega)
    rw [rootZ_neg (by omega)]
    have h1 := croot_ge hn z.natAbs
    have h2 := croot_below hn (show 1 ≤ z.natAbs by omega)
    have h3 := croot_pos hn (show 1 ≤ z.natAbs by omega)
    constructor
    · rw [neg_pow_odd _ hodd, ← Int.natCast_pow]; omega
    · rw [show -((croot n z.natAbs : Nat) : Int) + 1 = -((croot n z.natAbs - 1 : Nat) : Int) by omega, neg_pow_odd _ hodd, ← Int.natCast_pow]
      omega
theorem two_pow_root {n m : Nat} (hn : 1 ≤ n) (hm : 1 ≤ m) : (iroot n m + 1) ^ n ≤ 2 ^ n * m := by
  have h1 := iroot_pos hn hm
  have h2 := Nat.pow_le_pow_left (show iroot n m + 1 ≤ 2 * iroot n m by omega) n
  rw [Nat.mul_pow] at h2
  exact Nat.le_trans h2 (Nat.mul_le_mul_left _ (iroot_pow hn m))
theorem natAbs_pow_le {x : Int} {c n : Nat} (h : x.natAbs ≤ c) : (x ^ n).natAbs ≤ c ^ n := by
  rw [Int.natAbs_pow]; exact Nat.pow_le_pow_left h n
/-- No power of a root is long. -/
theorem rootZ_len {n : Nat} (hn : 1 ≤ n) (hn2 : n ≤ 64) {z : Int} (hl : lc z.natAbs ≤ 12) : lc (rootZ n z ^ n).natAbs ≤ 24 ∧ lc ((rootZ n z + 1) ^ n).natAbs ≤ 24 ∧ lc (rootZ n z).natAbs ≤ 14 ∧ lc (rootZ n z + 1).natAbs ≤ 14 := by
  have hW : lc (2 ^ n) ≤ 2 := by
    rw [lc_le, W64_pow]
    exact Nat.pow_lt_pow_of_lt (by omega) (by omega)
  have key : ∀ c : Nat, c ≤ iroot n z.natAbs + 1 → lc (c ^ n) ≤ 24 ∧ lc c ≤ 14 := by
    intro c hc
    have hcc : lc (c ^ n) ≤ 14 := by
      rcases Nat.eq_zero_or_pos z.natAbs with h0 | h0
      · rw [h0, iroot_zero hn] at hc
        have h1 := Nat.pow_le_pow_left hc n
        rw [Nat.zero_add, Nat.one_pow] at h1
        have h2 := lc_mono h1
        have h3 := lc_limb (x := 1) (by rw [W64_eq]; omega)
        omega
      · have h1 := Nat.le_trans (Nat.pow_le_pow_left hc n) (two_pow_root hn h0)
        have h2 := lc_mono h1
        have h3 := lc_mul (2 ^ n) z.natAbs
        omega
    have h4 := lc_mono (rle_pow_of (r := c) hn)
    omega
  have hr : (rootZ n z).natAbs ≤ iroot n z.natAbs + 1 := by
    by_cases hz : 0 ≤ z
    · rw [rootZ_pos hz]; omega
    · rw [rootZ_neg (by omega)]
      have := croot_le (n := n) (m := z.natAbs)
      omega
  have hr1 : (rootZ n z + 1).natAbs ≤ iroot n z.natAbs + 1 := by
    by_cases hz : 0 ≤ z
    · rw [rootZ_pos hz]; omega
    · rw [rootZ_neg (by omega)]
      have := croot_le (n := n) (m := z.natAbs)
      have := croot_pos hn (show 1 ≤ z.natAbs by omega)
      omega
  have k1 := key _ hr
  have k2 := key _ hr1
  rw [Int.natAbs_pow, Int.natAbs_pow]
  exact ⟨k1.1, k2.1, k1.2, k2.2⟩
theorem lc_natAbs_mono {x y : Int} (h : x.natAbs ≤ y.natAbs) : lc x.natAbs ≤ lc y.natAbs := lc_mono h
/-- Of a power the root is what was raised, or its size. -/
theorem rootZ_of_pow {n : Nat} (hn : 1 ≤ n) (b : Int) : rootZ n (b ^ n) = if n % 2 = 1 then b else (b.natAbs : Int) := by
  by_cases ho : n % 2 = 1
  · rw [if_pos ho]
    by_cases hb : 0 ≤ b
    · have hp : 0 ≤ b ^ n := Int.pow_nonneg hb
      rw [rootZ_pos hp, Int.natAbs_pow, iroot_of_pow hn]; omega
    · obtain ⟨c, rfl⟩ : ∃ c : Nat, b = -((c : Nat) : Int) := ⟨b.natAbs, by omega⟩
      rw [neg_pow_odd _ ho, ← Int.natCast_pow]
      have hc : 1 ≤ c := by omega
      have hcp : 1 ≤ c ^ n := Nat.pow_pos hc
      rw [rootZ_neg (by omega), show (-((c ^ n : Nat) : Int)).natAbs = c ^ n by omega]
      have h1 : croot n (c ^ n) ≤ c := croot_min hn (Nat.le_refl _)
      have h2 := croot_ge hn (c ^ n)
      have h3 : c ≤ croot n (c ^ n) := (Nat.pow_le_pow_iff_left (by omega)).1 h2
      omega
  · rw [if_neg ho]
    have hp : 0 ≤ b ^ n := by
      obtain ⟨k, rfl⟩ : ∃ k, n = 2 * k := ⟨n / 2, by omega⟩
      rw [Int.pow_mul]
      exact Int.pow_nonneg (by rw [Int.pow_succ, Int.pow_succ, Int.pow_zero, Int.one_mul, ← Int.natAbs_mul_self]; exact Int.natCast_nonneg _)
    rw [rootZ_pos hp, Int.natAbs_pow, iroot_of_pow hn]
theorem perf_pow {z y : Int} {k : Nat} (h : PerfOf z y k) : y ^ k = z ∧ 1 ≤ k ∧ (y < 0 ↔ z < 0) := by
  rcases h with ⟨_, rfl, rfl⟩ | ⟨hz, x, hp, rfl⟩
  · exact ⟨Int.pow_one _, Nat.le_refl _, Iff.rfl⟩
  · have hx := two_le_of_pow hp.pow hz
    have e := hp.pow
    refine ⟨?_, hp.pos, ?_⟩
    · by_cases hn : z < 0
      · have ho := hp.ok (decide_eq_true hn)
        rw [decide_eq_true hn]
        show (-((x : Nat) : Int)) ^ k = z
        rw [neg_pow_odd _ ho, ← Int.natCast_pow, e]; omega
      · rw [decide_eq_false hn]
        show ((x : Nat) : Int) ^ k = z
        rw [← Int.natCast_pow, e]; omega
    · by_cases hn : z < 0
      · rw [decide_eq_true hn]
        show (-((x : Nat) : Int)) < 0 ↔ z < 0
        omega
      · rw [decide_eq_false hn]
        show ((x : Nat) : Int) < 0 ↔ z < 0
        omega
theorem perf_again {z y y2 : Int} {k k2 : Nat} (hz : 2 ≤ z.natAbs) (h : PerfOf z y k) (h2 : PerfOf y y2 k2) : y2 = y ∧ k2 = 1 := by
  have hs := (perf_pow h).2.2
  rcases h with ⟨h0, _⟩ | ⟨_, x, hp, rfl⟩
  · omega
  · have hx := two_le_of_pow hp.pow hz
    rcases h2 with ⟨h0, _⟩ | ⟨_, x2, hp2, rfl⟩
    · rw [signed_natAbs] at h0; omega
    · have hneg : decide (signed (decide (z < 0)) x < 0) = decide (z < 0) := by rw [decide_eq_decide]; exact hs
      rw [hneg, signed_natAbs] at hp2
      rw [hneg]
      have hk : k2 = 1 := by
        rcases Nat.lt_or_ge 1 k2 with h3 | h3
        · exact absurd hp2.pow (hp.none k2 h3 hp2.ok x2)
        · have := hp2.pos; omega
      subst hk
      have := hp2.pow
      rw [Nat.pow_one] at this
      rw [this]
      exact ⟨rfl, rfl⟩
theorem perf_dvd {b z y : Int} {n k : Nat} (hn : 1 ≤ n) (hz : 2 ≤ z.natAbs) (hpos : 0 ≤ z) (h : PerfOf z y k) (hb : b ^ n = z) : k % n = 0 := by
  rcases h with ⟨h0, _⟩ | ⟨_, x, hp, rfl⟩
  · omega
  · rw [decide_eq_false (show ¬ z < 0 by omega)] at hp
    obtain ⟨j, hj, _⟩ := hp.divides hn (fun h => by cases h) (y := b.natAbs) (by rw [← hb, Int.natAbs_pow])
    rw [hj, Nat.mul_mod_right]
end Go.Proofs.Ytmnfokapdipcdaa
