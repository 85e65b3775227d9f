import Derived.Test.YtmnfokapdipcdaaRootQ
import Derived.Test.YtmnfokapdipcdaaInt5
/- The numbers of RootNumbers, plain. -/
namespace Go.Proofs.Ytmnfokapdipcdaa
theorem val_full (n : Nat) : val (List.replicate n (W64 - 1)) + 1 = W64 ^ n := by
  induction n with
  | zero => simp
  | succ n ih =>
    rw [List.replicate_succ, val_cons, Nat.pow_succ]
    have h1 := W64_pos
    have h2 : W64 * (val (List.replicate n (W64 - 1)) + 1) = W64 * W64 ^ n := by rw [ih]
    rw [Nat.mul_add, Nat.mul_one] at h2
    rw [Nat.mul_comm (W64 ^ n)]
    omega
theorem small_full (n : Nat) : Small (List.replicate n (W64 - 1)) := by
  intro y hy
  rw [(List.mem_replicate.1 hy).2]
  have := W64_pos
  omega
theorem limbs_full (n : Nat) : limbs (W64 ^ n - 1) = List.replicate n (W64 - 1) := by
  have h1 : W64 ^ n - 1 = val (List.replicate n (W64 - 1)) := by have := val_full n; omega
  rw [h1]
  refine (eq_limbs (small_full n) ?_).symm
  cases n with
  | zero => exact .inl rfl
  | succ n =>
    right
    have h2 := W64_ge
    rw [List.length_replicate, Nat.add_sub_cancel, List.getD_eq_getElem?_getD, List.getElem?_replicate, if_pos (by omega)]
    show W64 - 1 ≠ 0
    omega
theorem isqrt_full {P : Nat} (h : 1 ≤ P) : isqrt (P * P - 1) = P - 1 := by
  obtain ⟨q, rfl⟩ : ∃ q, P = q + 1 := ⟨P - 1, by omega⟩
  rw [Nat.add_sub_cancel]
  have e : (q + 1) * (q + 1) = q * q + q + q + 1 := by rw [Nat.add_mul, Nat.mul_add]; omega
  have h1 : isqrt ((q + 1) * (q + 1) - 1) ≤ q := isqrt_le.2 (by omega)
  have h2 : q ≤ isqrt ((q + 1) * (q + 1) - 1) := le_isqrt.2 (by omega)
  omega
theorem rest_full {P : Nat} (h : 1 ≤ P) : P * P - 1 - (P - 1) * (P - 1) = 2 * P - 2 := by
  obtain ⟨q, rfl⟩ : ∃ q, P = q + 1 := ⟨P - 1, by omega⟩
  rw [Nat.add_sub_cancel]
  have e : (q + 1) * (q + 1) = q * q + q + q + 1 := by rw [Nat.add_mul, Nat.mul_add]; omega
  omega
/-- Twice a power of 2^64, less 2: its limbs. -/
theorem rest_limbs (n : Nat) (hn : 1 ≤ n) : lc (2 * W64 ^ n - 2) = n + 1 ∧ (limbs (2 * W64 ^ n - 2)).getD 0 0 = W64 - 2 ∧ (limbs (2 * W64 ^ n - 2)).getD n 0 = 1 := by
  obtain ⟨m, rfl⟩ : ∃ m, n = m + 1 := ⟨n - 1, by omega⟩
  have hW := W64_ge
  have hP : 1 ≤ W64 ^ m := Nat.pow_pos W64_pos
  have hP2 : W64 ^ (m + 1) = W64 ^ m * W64 := Nat.pow_succ ..
  have hP3 : 2 ≤ W64 ^ (m + 1) := by rw [hP2]; exact Nat.le_trans hW (Nat.le_mul_of_pos_left _ hP)
  refine ⟨?_, ?_, ?_⟩
  · have h1 : lc (2 * W64 ^ (m + 1) - 2) ≤ m + 1 + 1 := by
      rw [lc_le, Nat.pow_succ W64 (m + 1)]
      have := Nat.mul_le_mul_left (W64 ^ (m + 1)) hW
      omega
    have h2 : ¬ lc (2 * W64 ^ (m + 1) - 2) ≤ m + 1 := by rw [lc_le]; omega
    omega
  · rw [limbs_getD, Nat.pow_zero, Nat.div_one, hP2]
    have e : 2 * (W64 ^ m * W64) - 2 = (W64 - 2) + W64 * (2 * W64 ^ m - 1) := by
      obtain ⟨t, ht⟩ : ∃ t, W64 ^ m = t + 1 := ⟨W64 ^ m - 1, by omega⟩
      rw [ht, show 2 * (t + 1) - 1 = 2 * t + 1 by omega, Nat.add_mul, Nat.mul_add W64, Nat.mul_left_comm, Nat.mul_comm W64 t]
      omega
    rw [e, Nat.add_mul_mod_self_left, Nat.mod_eq_of_lt (by omega)]
  · rw [limbs_getD]
    have e : (2 * W64 ^ (m + 1) - 2) / W64 ^ (m + 1) = 1 := by
      refine (Nat.div_eq_iff (by omega)).2 ?_
      omega
    rw [e, Nat.mod_eq_of_lt (by omega)]
theorem root_full {n : Nat} (hn : 1 ≤ n) : iroot n (W64 ^ n - 1) = W64 - 1 := by
  have h1 := W64_pos
  refine iroot_eq hn ?_ ?_
  · have := Nat.pow_lt_pow_left (show W64 - 1 < W64 by omega) (show n ≠ 0 by omega)
    omega
  · rw [show W64 - 1 + 1 = W64 by omega]
    have := Nat.pow_pos (n := n) h1
    omega
theorem two_three : ∀ n, 2 ^ (n + 3) ≤ 3 ^ (n + 2) + 3 ^ (n + 2) - 1 ∧ 2 ^ (n + 3) < 3 ^ (n + 2)
  | 0 => by decide
  | n + 1 => by
    have h := (two_three n).2
    have e1 : 2 ^ (n + 1 + 3) = 2 * 2 ^ (n + 3) := by rw [show n + 1 + 3 = n + 3 + 1 by omega, Nat.pow_succ]; omega
    have e2 : 3 ^ (n + 1 + 2) = 3 * 3 ^ (n + 2) := by rw [show n + 1 + 2 = n + 2 + 1 by omega, Nat.pow_succ]; omega
    rw [e1, e2]
    omega
theorem root_two {n : Nat} (hn : 2 ≤ n) : iroot n (2 ^ (n + 1) - 1) = 2 := by
  obtain ⟨m, rfl⟩ : ∃ m, n = m + 2 := ⟨n - 2, by omega⟩
  have h := (two_three m).2
  have e : 2 ^ (m + 2 + 1) = 2 * 2 ^ (m + 2) := by rw [Nat.pow_succ]; omega
  have hp : 1 ≤ 2 ^ (m + 2) := Nat.pow_pos (by omega)
  refine iroot_eq (by omega) (by omega) ?_
  show 2 ^ (m + 2 + 1) - 1 < 3 ^ (m + 2)
  rw [e]
  have e3 : 2 ^ (m + 3) = 2 * 2 ^ (m + 2) := e
  rw [e3] at h
  omega
theorem root_one_of {n : Nat} (hn : 1 ≤ n) : iroot n (2 ^ n - 1) = 1 := by
  have hp : 2 ≤ 2 ^ n := by
    have := Nat.pow_le_pow_right (show 0 < 2 by omega) hn
    omega
  refine iroot_eq hn (by rw [Nat.one_pow]; omega) ?_
  show 2 ^ n - 1 < 2 ^ n
  omega
theorem perf_two64 {y : Int} {k : Nat} (h : PerfOf (W64 : Nat) y k) : y = 2 ∧ k = 64 := by
  have hW := W64_two
  rcases h with ⟨h0, _⟩ | ⟨_, x, hp, rfl⟩
  · have := W64_eq
    omega
  · have hneg : decide (((W64 : Nat) : Int) < 0) = false := decide_eq_false (by omega)
    rw [hneg] at hp ⊢
    rw [Int.natAbs_natCast] at hp
    obtain ⟨j, h1, h2⟩ := hp.divides (k := 64) (by omega) (fun h => by cases h) (y := 2) hW.symm
    have hx : 2 ≤ x := two_le_of_pow hp.pow (by have := W64_eq; omega)
    have hj : j = 1 := by
      rcases j with _ | _ | j
      · simp at h2
      · rfl
      · have h3 := Nat.pow_le_pow_left hx (j + 1 + 1)
        rw [← h2, Nat.pow_succ, Nat.pow_succ] at h3
        have := Nat.pow_pos (n := j) (show 0 < 2 by omega)
        omega
    subst hj
    rw [Nat.pow_one] at h2
    subst h2
    exact ⟨rfl, by omega⟩
end Go.Proofs.Ytmnfokapdipcdaa
