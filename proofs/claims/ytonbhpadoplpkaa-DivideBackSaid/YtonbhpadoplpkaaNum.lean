/- Plain numbers: limbs (base 2^64, the lowest first) and their worth. No program in sight. -/
namespace Go.Proofs.Ytonbhpadoplpkaa

/-- 2^64, kept behind a name. -/
@[irreducible] def W64 : Nat := 18446744073709551616
theorem W64_eq : W64 = 18446744073709551616 := by unfold W64; rfl
theorem W64_pos : 0 < W64 := by rw [W64_eq]; decide
theorem W64_ge : 2 ≤ W64 := by rw [W64_eq]; decide

def val : List Nat → Nat
  | [] => 0
  | x :: xs => x + W64 * val xs
def Small (xs : List Nat) : Prop := ∀ x ∈ xs, x < W64

@[simp] theorem val_nil : val [] = 0 := rfl
@[simp] theorem val_cons (x : Nat) (xs : List Nat) : val (x :: xs) = x + W64 * val xs := rfl
theorem Small.nil : Small [] := fun _ h => nomatch h
theorem Small.cons {x : Nat} {xs : List Nat} (hx : x < W64) (h : Small xs) : Small (x :: xs) := by
  intro y hy
  rcases List.mem_cons.1 hy with rfl | hy
  · exact hx
  · exact h y hy
theorem Small.head {x : Nat} {xs : List Nat} (h : Small (x :: xs)) : x < W64 := h x (by simp)
theorem Small.tail {x : Nat} {xs : List Nat} (h : Small (x :: xs)) : Small xs := fun y hy => h y (by simp [hy])
theorem Small.append {xs ys : List Nat} (h : Small xs) (k : Small ys) : Small (xs ++ ys) := by
  intro y hy
  rcases List.mem_append.1 hy with hy | hy
  · exact h y hy
  · exact k y hy
theorem Small.take {xs : List Nat} (h : Small xs) (n : Nat) : Small (xs.take n) := fun y hy => h y (List.mem_of_mem_take hy)
theorem Small.drop {xs : List Nat} (h : Small xs) (n : Nat) : Small (xs.drop n) := fun y hy => h y (List.mem_of_mem_drop hy)
theorem Small.getD {xs : List Nat} (h : Small xs) (k : Nat) : xs.getD k 0 < W64 := by
  by_cases hk : k < xs.length
  · have e : xs.getD k 0 = xs[k] := by simp [hk]
    rw [e]; exact h _ (List.getElem_mem hk)
  · have e : xs.getD k 0 = 0 := by simp [show xs.length ≤ k by omega]
    rw [e]; exact W64_pos
theorem Small.set {xs : List Nat} (h : Small xs) (k x : Nat) (hx : x < W64) : Small (xs.set k x) := by
  intro y hy
  rcases List.mem_or_eq_of_mem_set hy with hy | rfl
  · exact h y hy
  · exact hx
theorem Small.zeros (n : Nat) : Small (List.replicate n 0) := by
  intro y hy
  rw [(List.mem_replicate.1 hy).2]; exact W64_pos
theorem Small.one {x : Nat} (hx : x < W64) : Small [x] := Small.cons hx Small.nil

theorem val_append (xs ys : List Nat) : val (xs ++ ys) = val xs + W64 ^ xs.length * val ys := by
  induction xs with
  | nil => simp
  | cons x xs ih => simp only [List.cons_append, val_cons, ih, List.length_cons, Nat.pow_succ]; grind
theorem val_snoc (xs : List Nat) (y : Nat) : val (xs ++ [y]) = val xs + W64 ^ xs.length * y := by
  rw [val_append]; simp
theorem val_zeros (n : Nat) : val (List.replicate n 0) = 0 := by
  induction n with
  | zero => rfl
  | succ n ih => simp [List.replicate_succ, ih]
theorem val_lt {xs : List Nat} (h : Small xs) : val xs < W64 ^ xs.length := by
  induction xs with
  | nil => simp
  | cons x xs ih =>
    have h1 := h.head
    have h2 := ih h.tail
    simp only [val_cons, List.length_cons, Nat.pow_succ]
    have h3 : W64 * val xs + W64 ≤ W64 * W64 ^ xs.length := by
      have := Nat.mul_le_mul_left W64 (show val xs + 1 ≤ W64 ^ xs.length from h2)
      rwa [Nat.mul_add, Nat.mul_one] at this
    rw [Nat.mul_comm (W64 ^ xs.length)]
    omega
theorem val_take_succ (xs : List Nat) (k : Nat) (hk : k < xs.length) : val (xs.take (k + 1)) = val (xs.take k) + W64 ^ k * xs.getD k 0 := by
  have e : xs.getD k 0 = xs[k] := by simp [hk]
  rw [List.take_succ_eq_append_getElem hk, val_snoc, e, List.length_take, Nat.min_eq_left (by omega)]
theorem val_take_over (xs : List Nat) (k : Nat) (hk : xs.length ≤ k) : val (xs.take (k + 1)) = val (xs.take k) + W64 ^ k * xs.getD k 0 := by
  rw [List.take_of_length_le (by omega), List.take_of_length_le hk, show xs.getD k 0 = 0 by simp [hk]]; simp
/-- The digit of a place, 0 behind the end: the worth of one digit more. -/
theorem val_take_step (xs : List Nat) (k : Nat) : val (xs.take (k + 1)) = val (xs.take k) + W64 ^ k * xs.getD k 0 := by
  by_cases hk : k < xs.length
  · exact val_take_succ xs k hk
  · exact val_take_over xs k (by omega)
theorem val_split (xs : List Nat) (k : Nat) (hk : k ≤ xs.length) : val xs = val (xs.take k) + W64 ^ k * val (xs.drop k) := by
  have h := val_append (xs.take k) (xs.drop k)
  rw [List.take_append_drop, List.length_take, Nat.min_eq_left hk] at h
  exact h
theorem val_drop_step (xs : List Nat) (k : Nat) (hk : k < xs.length) : val (xs.drop k) = xs.getD k 0 + W64 * val (xs.drop (k + 1)) := by
  have e : xs.getD k 0 = xs[k] := by simp [hk]
  rw [List.drop_eq_getElem_cons hk, val_cons, e]
theorem take_set_succ (os : List Nat) (k x : Nat) (hk : k < os.length) : (os.set k x).take (k + 1) = os.take k ++ [x] := by
  rw [List.take_succ_eq_append_getElem (by simpa using hk), List.take_set_of_le (Nat.le_refl k)]
  simp
theorem val_take_set (os : List Nat) (k x : Nat) (hk : k < os.length) : val ((os.set k x).take (k + 1)) = val (os.take k) + W64 ^ k * x := by
  rw [take_set_succ os k x hk, val_snoc, List.length_take, Nat.min_eq_left (by omega)]

/-! ### noughts on top; the limbs of a number -/
def trimL (xs : List Nat) : List Nat := (xs.reverse.dropWhile (· == 0)).reverse
theorem trimL_snoc_zero (xs : List Nat) : trimL (xs ++ [0]) = trimL xs := by simp [trimL]
theorem trimL_snoc_pos (xs : List Nat) (x : Nat) (h : x ≠ 0) : trimL (xs ++ [x]) = xs ++ [x] := by
  have e : (x == 0) = false := by simpa using h
  simp [trimL, e]
theorem trimL_zero (xs : List Nat) (n : Nat) (hn : n < xs.length) (h : xs.getD n 0 = 0) : trimL (xs.take (n + 1)) = trimL (xs.take n) := by
  have e : xs.getD n 0 = xs[n] := by simp [hn]
  rw [List.take_succ_eq_append_getElem hn, ← e, h, trimL_snoc_zero]
theorem trimL_pos (xs : List Nat) (n : Nat) (hn : n < xs.length) (h : xs.getD n 0 ≠ 0) : trimL (xs.take (n + 1)) = xs.take (n + 1) := by
  have e : xs.getD n 0 = xs[n] := by simp [hn]
  rw [List.take_succ_eq_append_getElem hn, ← e, trimL_snoc_pos _ _ h]

def limbs (n : Nat) : List Nat := if n = 0 then [] else n % W64 :: limbs (n / W64)
termination_by n
decreasing_by exact Nat.div_lt_self (by omega) W64_ge
theorem limbs_zero : limbs 0 = [] := by rw [limbs]; simp
theorem limbs_pos {n : Nat} (h : n ≠ 0) : limbs n = n % W64 :: limbs (n / W64) := by rw [limbs]; simp [h]
theorem limbs_eq_nil {n : Nat} : limbs n = [] ↔ n = 0 := by
  constructor
  · intro h
    by_cases h0 : n = 0
    · exact h0
    · rw [limbs_pos h0] at h; cases h
  · rintro rfl; exact limbs_zero
theorem val_limbs (n : Nat) : val (limbs n) = n := by
  induction n using Nat.strongRecOn with
  | _ n ih =>
    by_cases h : n = 0
    · subst h; rw [limbs_zero]; rfl
    · rw [limbs_pos h, val_cons, ih _ (Nat.div_lt_self (by omega) W64_ge)]
      exact Nat.mod_add_div n W64
theorem small_limbs (n : Nat) : Small (limbs n) := by
  induction n using Nat.strongRecOn with
  | _ n ih =>
    by_cases h : n = 0
    · subst h; rw [limbs_zero]; exact Small.nil
    · rw [limbs_pos h]
      exact Small.cons (Nat.mod_lt _ W64_pos) (ih _ (Nat.div_lt_self (by omega) W64_ge))
/-- No nought on top. -/
def Norm (xs : List Nat) : Prop := xs = [] ∨ xs.getD (xs.length - 1) 0 ≠ 0
theorem norm_limbs (n : Nat) : Norm (limbs n) := by
  induction n using Nat.strongRecOn with
  | _ n ih =>
    by_cases h : n = 0
    · subst h; left; exact limbs_zero
    · right
      rw [limbs_pos h]
      rcases ih _ (Nat.div_lt_self (by omega) W64_ge) with h0 | h0
      · rw [h0]
        have : n / W64 = 0 := limbs_eq_nil.1 h0
        have hl : n < W64 := by
          rcases Nat.lt_or_ge n W64 with h | h
          · exact h
          · have := Nat.div_pos h W64_pos; omega
        simpa [Nat.mod_eq_of_lt hl] using h
      · have hn : (limbs (n / W64)) ≠ [] := by
          intro e; rw [e] at h0; simp at h0
        obtain ⟨y, ys, e⟩ := List.exists_cons_of_ne_nil hn
        rw [e] at h0 ⊢
        simpa using h0
/-- Two lists without noughts on top that are worth the same are the same. -/
theorem val_inj {xs ys : List Nat} (h1 : Small xs) (h2 : Small ys) (n1 : Norm xs) (n2 : Norm ys) (h : val xs = val ys) : xs = ys := by
  induction xs generalizing ys with
  | nil =>
    cases ys with
    | nil => rfl
    | cons y ys =>
      exfalso
      have hz : ∀ zs : List Nat, val zs = 0 → ∀ k, zs.getD k 0 = 0 := by
        intro zs
        induction zs with
        | nil => intro _ k; simp
        | cons z zs ih =>
          intro h k
          simp only [val_cons] at h
          have hz : z = 0 := by omega
          have hv : val zs = 0 := by
            rcases Nat.eq_zero_or_pos (val zs) with h0 | h0
            · exact h0
            · have := Nat.mul_pos W64_pos h0; omega
          cases k with
          | zero => simpa using hz
          | succ k => simpa using ih hv k
      rcases n2 with n2 | n2
      · cases n2
      · exact n2 (hz _ h.symm _)
  | cons x xs ih =>
    cases ys with
    | nil =>
      exfalso
      have hz : ∀ zs : List Nat, val zs = 0 → ∀ k, zs.getD k 0 = 0 := by
        intro zs
        induction zs with
        | nil => intro _ k; simp
        | cons z zs ih =>
          intro h k
          simp only [val_cons] at h
          have hz : z = 0 := by omega
          have hv : val zs = 0 := by
            rcases Nat.eq_zero_or_pos (val zs) with h0 | h0
            · exact h0
            · have := Nat.mul_pos W64_pos h0; omega
          cases k with
          | zero => simpa using hz
          | succ k => simpa using ih hv k
      rcases n1 with n1 | n1
      · cases n1
      · exact n1 (hz _ h _)
    | cons y ys =>
      simp only [val_cons] at h
      have hx := h1.head
      have hy := h2.head
      have e1 : x = y := by
        have := congrArg (· % W64) h
        simpa [Nat.add_mul_mod_self_left, Nat.mod_eq_of_lt hx, Nat.mod_eq_of_lt hy] using this
      have e2 : val xs = val ys := by
        have : W64 * val xs = W64 * val ys := by omega
        exact Nat.eq_of_mul_eq_mul_left W64_pos this
      have t1 : ∀ (z : Nat) (zs : List Nat), Norm (z :: zs) → Norm zs := by
        intro z zs hz
        rcases hz with hz | hz
        · cases hz
        · cases zs with
          | nil => exact .inl rfl
          | cons a as => right; simpa using hz
      rw [e1, ih h1.tail h2.tail (t1 _ _ n1) (t1 _ _ n2) e2]
theorem val_trimL (xs : List Nat) : val (trimL xs) = val xs := by
  induction h : xs.length generalizing xs with
  | zero => have := List.eq_nil_of_length_eq_zero h; subst this; rfl
  | succ n ih =>
    have hn : n < xs.length := by omega
    have e : xs = xs.take n ++ [xs[n]] := by
      rw [← List.take_succ_eq_append_getElem hn, List.take_of_length_le (by omega)]
    have hl : (xs.take n).length = n := by simp; omega
    by_cases h0 : xs[n] = 0
    · rw [e, h0, trimL_snoc_zero, val_snoc, ih _ hl]; simp
    · rw [e, trimL_snoc_pos _ _ h0]
theorem norm_trimL (xs : List Nat) : Norm (trimL xs) := by
  induction h : xs.length generalizing xs with
  | zero => have := List.eq_nil_of_length_eq_zero h; subst this; exact .inl rfl
  | succ n ih =>
    have hn : n < xs.length := by omega
    have e : xs = xs.take n ++ [xs[n]] := by
      rw [← List.take_succ_eq_append_getElem hn, List.take_of_length_le (by omega)]
    have hl : (xs.take n).length = n := by simp; omega
    by_cases h0 : xs[n] = 0
    · rw [e, h0, trimL_snoc_zero]; exact ih _ hl
    · rw [e, trimL_snoc_pos _ _ h0]
      right
      rw [List.length_append, hl, List.length_singleton, Nat.add_sub_cancel, List.getD_eq_getElem?_getD, List.getElem?_append_right (by omega), hl]
      simpa using h0
theorem trimL_prefix (xs : List Nat) : trimL xs = xs.take (trimL xs).length := by
  induction h : xs.length generalizing xs with
  | zero => have := List.eq_nil_of_length_eq_zero h; subst this; rfl
  | succ n ih =>
    have hn : n < xs.length := by omega
    have e : xs = xs.take n ++ [xs[n]] := by
      rw [← List.take_succ_eq_append_getElem hn, List.take_of_length_le (by omega)]
    have hl : (xs.take n).length = n := by simp; omega
    by_cases h0 : xs[n] = 0
    · have e2 : trimL xs = trimL (xs.take n) := by
        conv => lhs; rw [e, h0]
        exact trimL_snoc_zero _
      have h3 := ih _ hl
      have h4 : (trimL (xs.take n)).length ≤ n := by
        have := congrArg List.length h3
        rw [List.length_take] at this; omega
      rw [e2]
      conv => lhs; rw [h3]
      rw [List.take_take, Nat.min_eq_left h4]
    · have e2 : trimL xs = xs := by
        conv => lhs; rw [e]
        rw [trimL_snoc_pos _ _ h0, ← e]
      rw [e2, List.take_length]
theorem length_trimL_le (xs : List Nat) : (trimL xs).length ≤ xs.length := by
  have := congrArg List.length (trimL_prefix xs)
  rw [List.length_take] at this; omega
theorem small_trimL {xs : List Nat} (h : Small xs) : Small (trimL xs) := by
  rw [trimL_prefix]; exact h.take _
theorem trimL_eq {xs : List Nat} (h : Small xs) : trimL xs = limbs (val xs) :=
  val_inj (small_trimL h) (small_limbs _) (norm_trimL xs) (norm_limbs _) (by rw [val_trimL, val_limbs])
theorem eq_limbs {xs : List Nat} (h : Small xs) (n : Norm xs) : xs = limbs (val xs) :=
  val_inj h (small_limbs _) n (norm_limbs _) (by rw [val_limbs])
theorem limbs_of_small {x : Nat} (h : x < W64) (h0 : x ≠ 0) : limbs x = [x] := by
  rw [limbs_pos h0, Nat.mod_eq_of_lt h, Nat.div_eq_of_lt h, limbs_zero]
/-- So many limbs just if below that power. -/
theorem limbs_length_le {n k : Nat} : (limbs n).length ≤ k ↔ n < W64 ^ k := by
  constructor
  · intro h
    have h1 := val_lt (small_limbs n)
    rw [val_limbs] at h1
    exact Nat.lt_of_lt_of_le h1 (Nat.pow_le_pow_right W64_pos h)
  · intro h
    rcases Nat.lt_or_ge k (limbs n).length with hk | hk
    · exfalso
      have hne : limbs n ≠ [] := by intro e; rw [e] at hk; simp at hk
      rcases norm_limbs n with h0 | h0
      · exact hne h0
      · have h2 := val_split (limbs n) ((limbs n).length - 1) (by omega)
        have h3 := val_drop_step (limbs n) ((limbs n).length - 1) (by omega)
        rw [val_limbs] at h2
        have h4 : W64 ^ ((limbs n).length - 1) * 1 ≤ W64 ^ ((limbs n).length - 1) * val ((limbs n).drop ((limbs n).length - 1)) := Nat.mul_le_mul_left _ (by omega)
        have h5 : W64 ^ k ≤ W64 ^ ((limbs n).length - 1) := Nat.pow_le_pow_right W64_pos (by omega)
        omega
    · exact hk
/-- How many limbs. -/
def lc (n : Nat) : Nat := (limbs n).length
theorem lc_le {n k : Nat} : lc n ≤ k ↔ n < W64 ^ k := limbs_length_le
theorem lt_lc (n : Nat) : n < W64 ^ lc n := lc_le.1 (Nat.le_refl _)
theorem lc_zero : lc 0 = 0 := by rw [lc, limbs_zero]; rfl
theorem lc_eq_zero {n : Nat} : lc n = 0 ↔ n = 0 := by
  constructor
  · intro h; exact limbs_eq_nil.1 (List.eq_nil_of_length_eq_zero h)
  · rintro rfl; exact lc_zero
theorem lc_mono {a b : Nat} (h : a ≤ b) : lc a ≤ lc b := lc_le.2 (Nat.lt_of_le_of_lt h (lt_lc b))
theorem lc_mul (a b : Nat) : lc (a * b) ≤ lc a + lc b := by
  rw [lc_le, Nat.pow_add]
  exact Nat.mul_lt_mul'' (lt_lc a) (lt_lc b)
theorem lc_add (a b : Nat) : lc (a + b) ≤ max (lc a) (lc b) + 1 := by
  rw [lc_le]
  have h1 := Nat.lt_of_lt_of_le (lt_lc a) (Nat.pow_le_pow_right W64_pos (Nat.le_max_left (lc a) (lc b)))
  have h2 := Nat.lt_of_lt_of_le (lt_lc b) (Nat.pow_le_pow_right W64_pos (Nat.le_max_right (lc a) (lc b)))
  rw [Nat.pow_succ]
  have h3 := Nat.mul_le_mul_left (W64 ^ max (lc a) (lc b)) W64_ge
  omega
theorem lc_val {xs : List Nat} (h : Small xs) : lc (val xs) ≤ xs.length := lc_le.2 (val_lt h)
theorem lc_limb {x : Nat} (h : x < W64) : lc x ≤ 1 := lc_le.2 (by simpa using h)

/-! ### which is less -/
def cmpN (m n : Nat) : Int := if m < n then -1 else if n < m then 1 else 0
theorem cmpN_lt {m n : Nat} (h : m < n) : cmpN m n = -1 := by unfold cmpN; rw [if_pos h]
theorem cmpN_gt {m n : Nat} (h : n < m) : cmpN m n = 1 := by unfold cmpN; rw [if_neg (by omega), if_pos h]
theorem cmpN_eq {m n : Nat} (h : m = n) : cmpN m n = 0 := by unfold cmpN; rw [if_neg (by omega), if_neg (by omega)]
theorem step_lt (P D : Nat) {x y : Nat} (h : x < y) : P * (x + D) + P ≤ P * (y + D) := by
  have h5 := Nat.mul_le_mul_left P (show x + D + 1 ≤ y + D by omega)
  rwa [Nat.mul_add P (x + D) 1, Nat.mul_one] at h5
theorem val_lt_top {xs ys : List Nat} (h1 : Small xs) (_h2 : Small ys) (hl : xs.length = ys.length) {k : Nat} (hk : k < xs.length) (hd : xs.drop (k + 1) = ys.drop (k + 1)) (hlt : xs.getD k 0 < ys.getD k 0) : val xs < val ys := by
  have h6 := step_lt (W64 ^ k) (W64 * val (ys.drop (k + 1))) hlt
  rw [val_split xs k (by omega), val_split ys k (by omega), val_drop_step xs k hk, val_drop_step ys k (by omega), hd]
  have h3 := val_lt (h1.take k)
  rw [List.length_take, Nat.min_eq_left (by omega)] at h3
  omega
theorem drop_same {xs ys : List Nat} (hl : xs.length = ys.length) {k : Nat} (hk : k < xs.length) (hd : xs.drop (k + 1) = ys.drop (k + 1)) (he : xs.getD k 0 = ys.getD k 0) : xs.drop k = ys.drop k := by
  have e1 : xs.getD k 0 = xs[k] := by simp [hk]
  have e2 : ys.getD k 0 = ys[k] := by simp [show k < ys.length by omega]
  rw [List.drop_eq_getElem_cons hk, List.drop_eq_getElem_cons (show k < ys.length by omega), hd, ← e1, ← e2, he]
theorem lc_lt {m n : Nat} (h : lc m < lc n) : m < n := by
  rcases Nat.lt_or_ge m n with h1 | h1
  · exact h1
  · have := lc_mono h1; omega

theorem drop_set_self (os : List Nat) (k x : Nat) (hk : k < os.length) : (os.set k x).drop k = x :: os.drop (k + 1) := by
  rw [List.drop_eq_getElem_cons (by simpa using hk)]
  simp [List.drop_set_of_lt]
theorem val_drop_set (os : List Nat) (k x : Nat) (hk : k < os.length) : val ((os.set k x).drop k) = x + W64 * val (os.drop (k + 1)) := by
  rw [drop_set_self os k x hk]; rfl

/-! ### how many bits -/
def nbits (n : Nat) : Nat := if n = 0 then 0 else Nat.log2 n + 1
theorem nbits_zero : nbits 0 = 0 := rfl
theorem nbits_le {n k : Nat} : nbits n ≤ k ↔ n < 2 ^ k := by
  unfold nbits
  by_cases h : n = 0
  · subst h; exact ⟨fun _ => Nat.pow_pos (by omega), fun _ => by simp⟩
  · rw [if_neg h, ← Nat.log2_lt h]; rfl
theorem lt_nbits (n : Nat) : n < 2 ^ nbits n := nbits_le.1 (Nat.le_refl _)
theorem nbits_pos {n : Nat} (h : n ≠ 0) : 1 ≤ nbits n := by unfold nbits; rw [if_neg h]; omega
theorem pow_le_of_nbits {n : Nat} (h : n ≠ 0) : 2 ^ (nbits n - 1) ≤ n := by
  unfold nbits; rw [if_neg h, Nat.add_sub_cancel]; exact Nat.log2_self_le h
theorem nbits_eq {n k : Nat} (h1 : 2 ^ k ≤ n) (h2 : n < 2 ^ (k + 1)) : nbits n = k + 1 := by
  have h3 := nbits_le.2 h2
  rcases Nat.lt_or_ge k (nbits n) with h | h
  · omega
  · have := nbits_le.1 h; omega
theorem nbits_mono {a b : Nat} (h : a ≤ b) : nbits a ≤ nbits b := nbits_le.2 (Nat.lt_of_le_of_lt h (lt_nbits b))
theorem W64_two : W64 = 2 ^ 64 := by rw [W64_eq]
theorem W64_pow (k : Nat) : W64 ^ k = 2 ^ (64 * k) := by rw [W64_two, ← Nat.pow_mul]
theorem nbits_le_lc (n : Nat) : nbits n ≤ 64 * lc n := by rw [nbits_le, ← W64_pow]; exact lt_lc n
theorem lc_le_nbits {n k : Nat} : lc n ≤ k ↔ nbits n ≤ 64 * k := by rw [lc_le, nbits_le, W64_pow]
theorem nbits_mul_pow {n k : Nat} (h : n ≠ 0) : nbits (n * 2 ^ k) = nbits n + k := by
  have h1 := pow_le_of_nbits h
  have h2 := lt_nbits n
  have h3 := nbits_pos h
  have e := nbits_eq (n := n * 2 ^ k) (k := nbits n - 1 + k) (by rw [Nat.pow_add]; exact Nat.mul_le_mul_right _ h1) (by
    rw [show nbits n - 1 + k + 1 = nbits n + k by omega, Nat.pow_add]; exact Nat.mul_lt_mul_of_pos_right h2 (Nat.pow_pos (by omega)))
  omega

end Go.Proofs.Ytonbhpadoplpkaa
