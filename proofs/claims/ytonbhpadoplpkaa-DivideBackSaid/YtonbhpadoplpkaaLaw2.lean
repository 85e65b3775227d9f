import Derived.Test.YtonbhpadoplpkaaLaw1
/- Plain laws: what is told of a row of whole numbers. -/
namespace Go.Proofs.Ytonbhpadoplpkaa
/-- How many of the first n numbers stand up to the last that is not 0. -/
def topZ (z : Nat → Int) : Nat → Nat
  | 0 => 0
  | n + 1 => if z n = 0 then topZ z n else n + 1
theorem topZ_le (z : Nat → Int) (n : Nat) : topZ z n ≤ n := by
  induction n with
  | zero => exact Nat.le_refl 0
  | succ n ih => unfold topZ; split <;> omega
theorem topZ_top {z : Nat → Int} {n : Nat} (h : 0 < topZ z n) : z (topZ z n - 1) ≠ 0 := by
  induction n with
  | zero => simp [topZ] at h
  | succ n ih =>
    unfold topZ at h ⊢
    split
    · rename_i h0; rw [if_pos h0] at h; exact ih h
    · rename_i h0; exact h0
/-- A whole number as it is told. -/
def rawOf (x : Int) : Bool × List Nat := (decide (x < 0), limbs x.natAbs)
/-- What is told of n numbers: nothing, if one of them is too long. -/
def toldZ (z : Nat → Int) (n : Nat) : List (Bool × List Nat) × Int :=
  if (List.range (topZ z n)).any (fun i => decide (262144 < nbits (z i).natAbs)) then ([], 3) else ((List.range (topZ z n)).map (fun i => rawOf (z i)), 0)
/-! ### products, cut off -/
/-- The number at place m of a's first i numbers times b. -/
def convS (a b : Nat → Int) : Nat → Nat → Int
  | 0, _ => 0
  | i + 1, m => convS a b i m + (if i ≤ m then a i * b (m - i) else 0)
theorem convS_succ (a b : Nat → Int) (i m : Nat) : convS a b (i + 1) m = convS a b i m + (if i ≤ m then a i * b (m - i) else 0) := rfl
/-- The product's number at place m. -/
def mulZ (a b : Nat → Int) (m : Nat) : Int := convS a b (m + 1) m
theorem convS_past (a b : Nat → Int) {i m : Nat} (h : m + 1 ≤ i) : convS a b i m = mulZ a b m := by
  induction i with
  | zero => omega
  | succ i ih =>
    by_cases hi : i = m
    · subst hi; rfl
    · unfold convS
      rw [if_neg (by omega), ih (by omega)]; omega
theorem convS_small {a b : Nat → Int} {A B n m : Nat} (ha : ∀ k, k < n → (a k).natAbs ≤ A) (hb : ∀ k, k < n → (b k).natAbs ≤ B) (hm : m < n) : ∀ i, i ≤ n → (convS a b i m).natAbs ≤ i * (A * B)
  | 0, _ => by simp [convS]
  | i + 1, hi => by
    have h1 := convS_small ha hb hm i (by omega)
    unfold convS
    rw [Nat.succ_mul]
    split
    · have h2 : (a i * b (m - i)).natAbs ≤ A * B := by rw [Int.natAbs_mul]; exact Nat.mul_le_mul (ha i (by omega)) (hb (m - i) (by omega))
      omega
    · omega
theorem mulZ_small {a b : Nat → Int} {A B n m : Nat} (ha : ∀ k, k < n → (a k).natAbs ≤ A) (hb : ∀ k, k < n → (b k).natAbs ≤ B) (hm : m < n) : (mulZ a b m).natAbs ≤ n * (A * B) :=
  Nat.le_trans (convS_small ha hb hm (m + 1) (by omega)) (Nat.mul_le_mul_right _ (by omega))
/-- a with b in the place of x, by Horner: behind k steps of K. -/
def hornZ (a b : Nat → Int) (K : Nat) : Nat → Nat → Int
  | 0, _ => 0
  | k + 1, m => mulZ (hornZ a b K k) b m + (if m = 0 then a (K - 1 - k) else 0)
theorem hornZ_small {a b : Nat → Int} {n M K : Nat} (hn : n ≤ 4096) (hM : 0 < M) (ha : ∀ k, (a k).natAbs ≤ M) (hb : ∀ k, (b k).natAbs ≤ M) : ∀ k m, m < n → (hornZ a b K k m).natAbs ≤ (8192 * M) ^ k
  | 0, _, _ => by simp [hornZ]
  | k + 1, m, hm => by
    have h1 := mulZ_small (a := hornZ a b K k) (A := (8192 * M) ^ k) (B := M) (fun j hj => hornZ_small hn hM ha hb k j hj) (fun j _ => hb j) hm
    have h0 : 0 < (8192 * M) ^ k := Nat.pow_pos (by omega)
    have h2 : n * ((8192 * M) ^ k * M) ≤ 4096 * ((8192 * M) ^ k * M) := Nat.mul_le_mul_right _ hn
    have h3 : M ≤ (8192 * M) ^ k * M := Nat.le_mul_of_pos_left _ h0
    have h4 : (8192 * M) ^ (k + 1) = 8192 * ((8192 * M) ^ k * M) := by rw [Nat.pow_succ]; grind
    have h5 := ha (K - 1 - k)
    unfold hornZ
    split <;> omega
/-- b to the power k, from a on. -/
def powZ (a b : Nat → Int) : Nat → Nat → Int
  | 0 => a
  | k + 1 => mulZ (powZ a b k) b
theorem powZ_small {a b : Nat → Int} {n B : Nat} (hn : n ≤ 4096) (ha : ∀ k, k < n → (a k).natAbs ≤ 1) (hb : ∀ k, k < n → (b k).natAbs ≤ B) : ∀ k m, m < n → (powZ a b k m).natAbs ≤ (4096 * B) ^ k
  | 0, m, hm => by simpa [powZ] using ha m hm
  | k + 1, m, hm => by
    have h1 := mulZ_small (A := (4096 * B) ^ k) (B := B) (fun j hj => powZ_small hn ha hb k j hj) hb hm
    have h2 : n * ((4096 * B) ^ k * B) ≤ 4096 * ((4096 * B) ^ k * B) := Nat.mul_le_mul_right _ hn
    have h4 : (4096 * B) ^ (k + 1) = 4096 * ((4096 * B) ^ k * B) := by rw [Nat.pow_succ]; grind
    show (mulZ (powZ a b k) b m).natAbs ≤ _
    omega
/-- The series that undoes p, by Lagrange: f is x over p. -/
def lagZ (a f : Nat → Int) (m : Nat) : Int := if m = 0 then 0 else (powZ a f m (m - 1)).tdiv m
/-! ### the division as the document has it -/
/-- What is left of a behind j steps from the lowest place on. -/
def refS (a : Int) (o b : Nat → Int) (i : Nat) : Nat → Int
  | 0 => a
  | j + 1 => refS a o b i j - o j * b (i - j)
theorem refS_subs (a : Int) (o b : Nat → Int) (i : Nat) : ∀ k, k ≤ i → subs a o b i k + refS a o b i (i - k) = refS a o b i i + a
  | 0, _ => by simp only [subs, Nat.sub_zero]; omega
  | k + 1, hk => by
    have ih := refS_subs a o b i k (by omega)
    obtain ⟨t, ht⟩ : ∃ t, i - k = t + 1 := ⟨i - k - 1, by omega⟩
    rw [ht] at ih
    have e1 : i - (k + 1) = t := by omega
    have e2 : i - t = k + 1 := by omega
    have h1 : refS a o b i (t + 1) = refS a o b i t - o t * b (k + 1) := by
      show refS a o b i t - o t * b (i - t) = _
      rw [e2]
    have h2 : subs a o b i (k + 1) = subs a o b i k - o t * b (k + 1) := by
      show subs a o b i k - o (i - (k + 1)) * b (k + 1) = _
      rw [e1]
    rw [e1, h2]
    rw [h1] at ih
    omega
/-- Both ways tell the same number. -/
theorem over_ref {a b : Nat → Int} (hb : (b 0).natAbs = 1) (i : Nat) : refS (a i) (overZ a b) b i i * b 0 = overZ a b i := by
  have h1 := refS_subs (a i) (overZ a b) b i i (Nat.le_refl i)
  rw [Nat.sub_self] at h1
  have h2 : refS (a i) (overZ a b) b i 0 = a i := rfl
  rw [overZ_eq]
  simp only
  have h3 : subs (a i) (overZ a b) b i i = refS (a i) (overZ a b) b i i := by omega
  rw [h3]
  generalize refS (a i) (overZ a b) b i i = r
  have h4 : b 0 = 1 ∨ b 0 = -1 := by omega
  rcases h4 with h4 | h4
  · rw [h4]; simp
  · rw [h4]; simp
theorem refS_bound {a : Int} {o b : Nat → Int} {i M E : Nat} (ha : a.natAbs ≤ M) (hb : ∀ k, k ≤ i → (b k).natAbs ≤ M) (ho : ∀ j, j < i → (o j).natAbs ≤ E ^ (j + 1)) : ∀ j, j ≤ i → (refS a o b i j).natAbs ≤ M * geo E j
  | 0, _ => by simpa [refS, geo] using ha
  | j + 1, hj => by
    have ih := refS_bound ha hb ho j (by omega)
    have h1 := ho j (by omega)
    have h2 := hb (i - j) (by omega)
    have h3 : (o j * b (i - j)).natAbs ≤ E ^ (j + 1) * M := by rw [Int.natAbs_mul]; exact Nat.mul_le_mul h1 h2
    have h5 : M * geo E (j + 1) = M * geo E j + E ^ (j + 1) * M := by
      show M * (geo E j + E ^ (j + 1)) = _
      rw [Nat.mul_add, Nat.mul_comm M (E ^ (j + 1))]
    have e : refS a o b i (j + 1) = refS a o b i j - o j * b (i - j) := rfl
    rw [e]
    generalize o j * b (i - j) = y at h3 ⊢
    omega
theorem refS_small {a : Int} {o b : Nat → Int} {i M : Nat} (hM : 0 < M) (ha : a.natAbs ≤ M) (hb : ∀ k, k ≤ i → (b k).natAbs ≤ M) (ho : ∀ j, j < i → (o j).natAbs ≤ (4 * M) ^ (j + 1)) {j : Nat} (hj : j ≤ i) : (refS a o b i j).natAbs ≤ (4 * M) ^ (i + 1) := by
  have h1 := refS_bound (E := 4 * M) ha hb ho j hj
  have h2 := geo_le (E := 4 * M) (by omega) j
  have h3 := Nat.mul_le_mul_left M h2
  have h4 : 0 < (4 * M) ^ j := Nat.pow_pos (by omega)
  have h5 : (4 * M) ^ (j + 1) = M * (2 * (4 * M) ^ j) + M * (2 * (4 * M) ^ j) := by
    rw [Nat.pow_succ]; grind
  have h6 : (4 * M) ^ (j + 1) ≤ (4 * M) ^ (i + 1) := Nat.pow_le_pow_right (by omega) (by omega)
  omega
end Go.Proofs.Ytonbhpadoplpkaa
