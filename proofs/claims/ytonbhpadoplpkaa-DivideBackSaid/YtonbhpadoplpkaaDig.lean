import Derived.Test.YtonbhpadoplpkaaNum
/- Numbers in digits of 32 bits. -/
namespace Go.Proofs.Ytonbhpadoplpkaa
/-- 2 to the power 32. -/
def W32 : Nat := 4294967296
theorem W32_eq : W32 = 4294967296 := by unfold W32; rfl
theorem W32_pos : 0 < W32 := by rw [W32_eq]; decide
theorem W64_sq : W64 = W32 * W32 := by rw [W64_eq, W32_eq]
theorem W32_lt : W32 < W64 := by rw [W64_eq, W32_eq]; decide
attribute [irreducible] W32
/-- The number of digits of 32 bits. -/
def val32 : List Nat → Nat
  | [] => 0
  | x :: xs => x + W32 * val32 xs
def Tiny (xs : List Nat) : Prop := ∀ x ∈ xs, x < W32
theorem Tiny.nil : Tiny [] := fun _ h => nomatch h
theorem Tiny.cons {x : Nat} {xs : List Nat} (hx : x < W32) (h : Tiny xs) : Tiny (x :: xs) := by
  intro y hy
  rcases List.mem_cons.1 hy with rfl | hy
  · exact hx
  · exact h y hy
theorem Tiny.head {x : Nat} {xs : List Nat} (h : Tiny (x :: xs)) : x < W32 := h x (by simp)
theorem Tiny.tail {x : Nat} {xs : List Nat} (h : Tiny (x :: xs)) : Tiny xs := fun y hy => h y (by simp [hy])
theorem Tiny.append {xs ys : List Nat} (h : Tiny xs) (k : Tiny ys) : Tiny (xs ++ ys) := by
  intro y hy
  rcases List.mem_append.1 hy with hy | hy
  · exact h y hy
  · exact k y hy
theorem Tiny.one {x : Nat} (hx : x < W32) : Tiny [x] := Tiny.cons hx Tiny.nil
theorem Tiny.take {xs : List Nat} (h : Tiny xs) (n : Nat) : Tiny (xs.take n) := fun y hy => h y (List.mem_of_mem_take hy)
theorem Tiny.getD {xs : List Nat} (h : Tiny xs) (k : Nat) : xs.getD k 0 < W32 := by
  rw [List.getD_eq_getElem?_getD]
  cases hk : xs[k]? with
  | none => simpa using W32_pos
  | some x => simpa using h x (List.mem_of_getElem? hk)
theorem Tiny.set {xs : List Nat} (h : Tiny xs) (k x : Nat) (hx : x < W32) : Tiny (xs.set k x) := by
  intro y hy
  rcases List.mem_or_eq_of_mem_set hy with hy | rfl
  · exact h y hy
  · exact hx
theorem Tiny.zeros (n : Nat) : Tiny (List.replicate n 0) := by
  intro y hy
  rw [(List.mem_replicate.1 hy).2]; exact W32_pos
theorem Tiny.small {xs : List Nat} (h : Tiny xs) : Small xs := fun x hx => Nat.lt_trans (h x hx) W32_lt
theorem Tiny.trim {xs : List Nat} (h : Tiny xs) : Tiny (trimL xs) := by rw [trimL_prefix]; exact h.take _
theorem val32_append (xs ys : List Nat) : val32 (xs ++ ys) = val32 xs + W32 ^ xs.length * val32 ys := by
  induction xs with
  | nil => simp [val32]
  | cons x xs ih => simp only [List.cons_append, val32, ih, List.length_cons, Nat.pow_succ]; grind
theorem val32_snoc (xs : List Nat) (y : Nat) : val32 (xs ++ [y]) = val32 xs + W32 ^ xs.length * y := by
  rw [val32_append]; simp [val32]
theorem val32_zeros (n : Nat) : val32 (List.replicate n 0) = 0 := by
  induction n with
  | zero => rfl
  | succ n ih => simp [List.replicate_succ, val32, ih]
theorem val32_lt {xs : List Nat} (h : Tiny xs) : val32 xs < W32 ^ xs.length := by
  induction xs with
  | nil => simp [val32]
  | cons x xs ih =>
    have h1 := ih h.tail
    have h2 := h.head
    simp only [val32, List.length_cons, Nat.pow_succ]
    have h3 : W32 * (val32 xs + 1) ≤ W32 * W32 ^ xs.length := Nat.mul_le_mul_left _ h1
    rw [Nat.mul_comm (W32 ^ xs.length)]
    rw [Nat.mul_add] at h3
    omega
theorem val32_take_succ (xs : List Nat) (k : Nat) (hk : k < xs.length) : val32 (xs.take (k + 1)) = val32 (xs.take k) + W32 ^ k * xs.getD k 0 := by
  rw [List.take_succ_eq_append_getElem hk, val32_snoc, List.length_take, Nat.min_eq_left (by omega)]; simp [hk]
theorem val32_take_step (xs : List Nat) (k : Nat) : val32 (xs.take (k + 1)) = val32 (xs.take k) + W32 ^ k * xs.getD k 0 := by
  by_cases hk : k < xs.length
  · exact val32_take_succ xs k hk
  · rw [List.take_of_length_le (by omega), List.take_of_length_le (by omega)]
    simp [show xs[k]? = none from List.getElem?_eq_none (by omega)]
theorem val32_trim (xs : List Nat) : val32 (trimL xs) = val32 xs := by
  have key : ∀ (n : Nat) (xs : List Nat), xs.length = n → val32 (trimL xs) = val32 xs := by
    intro n
    induction n with
    | zero => intro xs h; obtain rfl := List.eq_nil_of_length_eq_zero h; rfl
    | succ n ih =>
      intro xs h
      have e : xs = xs.take n ++ [xs.getD n 0] := by
        conv => lhs; rw [← List.take_of_length_le (l := xs) (i := n + 1) (by omega), List.take_succ_eq_append_getElem (by omega)]
        simp [show n < xs.length by omega]
      have hl : (xs.take n).length = n := by rw [List.length_take]; omega
      rw [e]
      generalize xs.getD n 0 = x
      generalize xs.take n = ys at hl
      by_cases hx : x = 0
      · subst hx; rw [trimL_snoc_zero, ih ys hl, val32_snoc]; simp
      · rw [trimL_snoc_pos _ _ hx]
  exact key _ xs rfl
/-- Each limb as two digits. -/
def hv : List Nat → List Nat
  | [] => []
  | x :: xs => x % W32 :: x / W32 :: hv xs
theorem hv_append (xs ys : List Nat) : hv (xs ++ ys) = hv xs ++ hv ys := by
  induction xs with
  | nil => rfl
  | cons x xs ih => simp [hv, ih]
theorem hv_length (xs : List Nat) : (hv xs).length = 2 * xs.length := by
  induction xs with
  | nil => rfl
  | cons x xs ih => simp [hv, ih]; omega
theorem hv_take_succ (xs : List Nat) (k : Nat) (hk : k < xs.length) : hv (xs.take (k + 1)) = hv (xs.take k) ++ [xs.getD k 0 % W32, xs.getD k 0 / W32] := by
  rw [List.take_succ_eq_append_getElem hk, hv_append]; simp [hk, hv]
theorem val32_hv (xs : List Nat) : val32 (hv xs) = val xs := by
  induction xs with
  | nil => rfl
  | cons x xs ih =>
    simp only [hv, val32, val, ih]
    have h := Nat.mod_add_div x W32
    rw [W64_sq]; grind
theorem tiny_hv {xs : List Nat} (h : Small xs) : Tiny (hv xs) := by
  induction xs with
  | nil => exact Tiny.nil
  | cons x xs ih =>
    refine Tiny.cons (Nat.mod_lt _ W32_pos) (Tiny.cons ?_ (ih h.tail))
    exact Nat.div_lt_of_lt_mul (by rw [← W64_sq]; exact h.head)
/-- Two digits each as a limb. -/
def pr : List Nat → List Nat
  | [] => []
  | [x] => [x]
  | x :: y :: r => (x + W32 * y) :: pr r
theorem pr_append (xs ys : List Nat) (k : Nat) (h : xs.length = 2 * k) : pr (xs ++ ys) = pr xs ++ pr ys := by
  induction k generalizing xs with
  | zero =>
    obtain rfl := List.eq_nil_of_length_eq_zero h
    rfl
  | succ k ih =>
    match xs, h with
    | x :: y :: r, h => simp only [List.cons_append, pr, ih r (by simp at h; omega)]
theorem val_pr : ∀ (n : Nat) (xs : List Nat), xs.length ≤ n → val (pr xs) = val32 xs
  | _, [], _ => rfl
  | _, [x], _ => by simp [pr, val, val32]
  | 0, _ :: _ :: _, h => by simp at h
  | n + 1, x :: y :: r, h => by
    simp only [pr, val, val32, val_pr n r (by simp at h; omega)]
    rw [W64_sq]; grind
theorem small_pr : ∀ (n : Nat) (xs : List Nat), xs.length ≤ n → Tiny xs → Small (pr xs)
  | _, [], _, _ => Small.nil
  | _, [x], _, h => Small.one (Nat.lt_trans h.head W32_lt)
  | 0, _ :: _ :: _, h, _ => by simp at h
  | n + 1, x :: y :: r, h, ht => by
    refine Small.cons ?_ (small_pr n r (by simp at h; omega) ht.tail.tail)
    have h1 := ht.head
    have h2 := ht.tail.head
    have h3 : W32 * (y + 1) ≤ W32 * W32 := Nat.mul_le_mul_left _ h2
    rw [Nat.mul_add] at h3
    rw [W64_sq]; omega
theorem pr_length : ∀ (n : Nat) (xs : List Nat), xs.length ≤ n → (pr xs).length ≤ xs.length
  | _, [], _ => Nat.le_refl _
  | _, [_], _ => Nat.le_refl _
  | 0, _ :: _ :: _, h => by simp at h
  | n + 1, x :: y :: r, h => by
    have := pr_length n r (by simp at h; omega)
    simp only [pr, List.length_cons]; omega
theorem pr_take_two (xs : List Nat) (k : Nat) (hk : 2 * k + 1 < xs.length) : pr (xs.take (2 * k + 2)) = pr (xs.take (2 * k)) ++ [xs.getD (2 * k) 0 + W32 * xs.getD (2 * k + 1) 0] := by
  rw [show 2 * k + 2 = (2 * k + 1) + 1 by omega, List.take_succ_eq_append_getElem hk, List.take_succ_eq_append_getElem (by omega), List.append_assoc]
  rw [pr_append _ _ k (by rw [List.length_take]; omega)]
  simp [pr, hk, show 2 * k < xs.length by omega]
theorem pr_take_one (xs : List Nat) (k : Nat) (hk : 2 * k + 1 = xs.length) : pr xs = pr (xs.take (2 * k)) ++ [xs.getD (2 * k) 0] := by
  have h : xs = xs.take (2 * k) ++ [xs.getD (2 * k) 0] := by
    conv => lhs; rw [← List.take_of_length_le (l := xs) (i := 2 * k + 1) (by omega), List.take_succ_eq_append_getElem (by omega)]
    simp [show 2 * k < xs.length by omega]
  conv => lhs; rw [h]
  rw [pr_append _ _ k (by rw [List.length_take]; omega)]
  rfl
/-- Digits without noughts on top. -/
def dig (xs : List Nat) : List Nat := trimL (hv xs)
theorem val32_dig (xs : List Nat) : val32 (dig xs) = val xs := by unfold dig; rw [val32_trim, val32_hv]
theorem tiny_dig {xs : List Nat} (h : Small xs) : Tiny (dig xs) := (tiny_hv h).trim
theorem dig_length (xs : List Nat) : (dig xs).length ≤ 2 * xs.length := by
  have := length_trimL_le (hv xs)
  rw [hv_length] at this; exact this
/-- The limbs of digits. -/
theorem limbs_pr {xs : List Nat} (h : Tiny xs) : trimL (pr xs) = limbs (val32 xs) := by
  rw [trimL_eq (small_pr _ xs (Nat.le_refl _) h), val_pr _ xs (Nat.le_refl _)]
theorem val32_set (os : List Nat) (j v : Nat) (hj : j < os.length) : val32 (os.set j v) + W32 ^ j * os.getD j 0 = val32 os + W32 ^ j * v := by
  induction os generalizing j with
  | nil => simp at hj
  | cons x os ih =>
    cases j with
    | zero => simp [val32]; omega
    | succ j =>
      have h := ih j (by simpa using hj)
      simp only [List.set_cons_succ, val32, List.getD_cons_succ, Nat.pow_succ]
      generalize val32 (os.set j v) = a at h ⊢
      generalize val32 os = b at h ⊢
      generalize W32 ^ j = P at h ⊢
      generalize os.getD j 0 = o at h ⊢
      have h1 : W32 * (a + P * o) = W32 * (b + P * v) := by rw [h]
      rw [Nat.mul_add, Nat.mul_add] at h1
      have e1 : P * W32 * o = W32 * (P * o) := by ac_rfl
      have e2 : P * W32 * v = W32 * (P * v) := by ac_rfl
      rw [e1, e2]
      omega
theorem step_bound {x y o c : Nat} (hx : x < W32) (hy : y < W32) (ho : o < W32) (hc : c < W32) : x * y + o + c < W64 := by
  have h1 : x * y ≤ (W32 - 1) * (W32 - 1) := Nat.mul_le_mul (by omega) (by omega)
  rw [W64_sq]
  obtain ⟨h, hh⟩ : ∃ h, W32 = h + 1 := ⟨W32 - 1, by have := W32_pos; omega⟩
  rw [hh] at h1 ho hc ⊢
  rw [Nat.add_sub_cancel] at h1
  rw [Nat.add_mul, Nat.mul_add]
  omega
theorem div32_lt {s : Nat} (h : s < W64) : s / W32 < W32 := Nat.div_lt_of_lt_mul (by rw [← W64_sq]; exact h)
/-- One step of a product. -/
theorem prod_step {v c a b : Nat} {os : List Nat} {i k x y s : Nat} (hk : i + k < os.length) (hs : x * y + os.getD (i + k) 0 + c = s) (h : val32 os + c * W32 ^ (i + k) = v + x * a * W32 ^ i) (hb : b = a + W32 ^ k * y) :
    val32 (os.set (i + k) (s % W32)) + s / W32 * W32 ^ (i + k + 1) = v + x * b * W32 ^ i := by
  have h1 := val32_set os (i + k) (s % W32) hk
  have h2 := Nat.mod_add_div s W32
  have h3 : x * b * W32 ^ i = x * a * W32 ^ i + W32 ^ (i + k) * (x * y) := by
    rw [hb, Nat.mul_add, Nat.add_mul, Nat.pow_add]
    congr 1
    ac_rfl
  have e1 : s / W32 * W32 ^ (i + k + 1) = W32 ^ (i + k) * (W32 * (s / W32)) := by rw [Nat.pow_succ]; ac_rfl
  have e2 : c * W32 ^ (i + k) = W32 ^ (i + k) * c := Nat.mul_comm _ _
  rw [h3, e1]
  rw [e2] at h
  have h4 : W32 ^ (i + k) * (s % W32 + W32 * (s / W32)) = W32 ^ (i + k) * (x * y + os.getD (i + k) 0 + c) := by rw [h2, hs]
  rw [Nat.mul_add, Nat.mul_add, Nat.mul_add] at h4
  omega
/-- One step of a sum. -/
theorem add_step {P a b o c x y s : Nat} (h : o + c * P = a + b) (hs : x + y + c = s) : o + P * (s % W32) + s / W32 * (P * W32) = a + P * x + (b + P * y) := by
  have h2 := Nat.mod_add_div s W32
  have e1 : s / W32 * (P * W32) = P * (W32 * (s / W32)) := by ac_rfl
  have e2 : c * P = P * c := Nat.mul_comm _ _
  rw [e1]
  rw [e2] at h
  have h4 : P * (s % W32 + W32 * (s / W32)) = P * (x + y + c) := by rw [h2, hs]
  rw [Nat.mul_add, Nat.mul_add, Nat.mul_add] at h4
  omega
/-- One step of a difference. -/
theorem sub_step {P a b o c x y s t : Nat} (h : o + b = a + c * P) (hs : s + y + c = W32 + x) (hc : c ≤ 1) (hx : x < W32) (ht : t = 1 - s / W32) : o + P * (s % W32) + (b + P * y) = a + P * x + t * (P * W32) ∧ t ≤ 1 ∧ s < 2 * W32 := by
  have h2 := Nat.mod_add_div s W32
  have hs2 : s < 2 * W32 := by omega
  have hd : s / W32 < 2 := Nat.div_lt_of_lt_mul (m := s) (n := W32) (k := 2) (by omega)
  generalize s / W32 = q at h2 hd ht
  have e2 : c * P = P * c := Nat.mul_comm _ _
  rw [e2] at h
  refine ⟨?_, by omega, hs2⟩
  have h4 : P * (s % W32 + W32 * q + y + c) = P * (W32 + x) := by rw [h2, hs]
  rw [Nat.mul_add, Nat.mul_add, Nat.mul_add, Nat.mul_add] at h4
  have e3 : t * (P * W32) + P * (W32 * q) = P * W32 := by
    rw [ht]
    obtain h5 | h5 : q = 0 ∨ q = 1 := by omega
    · rw [h5]; simp
    · rw [h5]; simp
  omega
theorem norm_len {xs : List Nat} {n : Nat} (hn : Norm xs) (h : val32 xs < W32 ^ n) : xs.length ≤ n := by
  rcases hn with rfl | hn
  · simp
  · rcases Nat.eq_zero_or_pos xs.length with h0 | h0
    · omega
    · have h1 := val32_take_succ xs (xs.length - 1) (by omega)
      rw [show xs.length - 1 + 1 = xs.length by omega, List.take_length] at h1
      have h2 : W32 ^ (xs.length - 1) * 1 ≤ W32 ^ (xs.length - 1) * xs.getD (xs.length - 1) 0 := Nat.mul_le_mul_left _ (by omega)
      rcases Nat.lt_or_ge n xs.length with h3 | h3
      · have h4 : W32 ^ n ≤ W32 ^ (xs.length - 1) := Nat.pow_le_pow_right W32_pos (by omega)
        omega
      · exact h3
theorem norm_dig (xs : List Nat) : Norm (dig xs) := norm_trimL _
theorem sub_end {o a b c n : Nat} (h : o + b = a + c * W32 ^ n) (hc : c ≤ 1) (ho : o < W32 ^ n) (hba : b ≤ a) : o = a - b := by
  obtain h5 | h5 : c = 0 ∨ c = 1 := by omega
  · rw [h5] at h; omega
  · rw [h5, Nat.one_mul] at h; omega
end Go.Proofs.Ytonbhpadoplpkaa
