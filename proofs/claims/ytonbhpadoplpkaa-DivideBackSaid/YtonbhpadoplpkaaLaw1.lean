import Derived.Test.YtonbhpadoplpkaaNum
/- Plain laws of power series of whole numbers: quotients, their sizes. -/
namespace Go.Proofs.Ytonbhpadoplpkaa
/-- What is left of a behind k steps of the division at place i: o the quotient so far. -/
def subs (a : Int) (o b : Nat → Int) (i : Nat) : Nat → Int
  | 0 => a
  | k + 1 => subs a o b i k - o (i - (k + 1)) * b (k + 1)
/-- The first n numbers of the quotient, as the program reckons them. -/
def overL (a b : Nat → Int) : Nat → List Int
  | 0 => []
  | n + 1 => overL a b n ++ [let r := subs (a n) (fun j => (overL a b n).getD j 0) b n n; if b 0 < 0 then -r else r]
theorem overL_length (a b : Nat → Int) (n : Nat) : (overL a b n).length = n := by
  induction n with
  | zero => rfl
  | succ n ih => simp [overL, ih]
/-- The number at place i. -/
def overZ (a b : Nat → Int) (i : Nat) : Int := (overL a b (i + 1)).getD i 0
theorem overL_getD (a b : Nat → Int) {n i : Nat} (h : i < n) : (overL a b n).getD i 0 = overZ a b i := by
  induction n with
  | zero => omega
  | succ n ih =>
    by_cases hi : i = n
    · subst hi; rfl
    · have h1 : i < n := by omega
      rw [← ih h1]
      simp [overL, List.getElem?_append_left, overL_length, h1]
theorem subs_congr {a : Int} {o o' b : Nat → Int} {i : Nat} (h : ∀ j, j < i → o j = o' j) : ∀ k, k ≤ i → subs a o b i k = subs a o' b i k
  | 0, _ => rfl
  | k + 1, hk => by
    unfold subs
    rw [subs_congr h k (by omega), h _ (by omega)]
theorem overZ_eq (a b : Nat → Int) (i : Nat) : overZ a b i = let r := subs (a i) (overZ a b) b i i; if b 0 < 0 then -r else r := by
  unfold overZ
  rw [show (overL a b (i + 1)).getD i 0 = (let r := subs (a i) (fun j => (overL a b i).getD j 0) b i i; if b 0 < 0 then -r else r) by
    simp [overL, overL_length]]
  rw [subs_congr (o := fun j => (overL a b i).getD j 0) (o' := overZ a b) (fun j hj => overL_getD a b hj) i (Nat.le_refl _)]
  rfl

/-! ### sizes -/
/-- The sum of the first i powers behind 1. -/
def geo (E : Nat) : Nat → Nat
  | 0 => 1
  | i + 1 => geo E i + E ^ (i + 1)
theorem geo_le {E : Nat} (h : 2 ≤ E) : ∀ i, geo E i ≤ 2 * E ^ i
  | 0 => by simp [geo]
  | i + 1 => by
    have h1 := geo_le h i
    have h2 : 2 * E ^ i ≤ E ^ (i + 1) := by rw [Nat.pow_succ, Nat.mul_comm]; exact Nat.mul_le_mul_left _ h
    unfold geo; omega
theorem subs_bound {a : Int} {o b : Nat → Int} {i M E : Nat} (ha : a.natAbs ≤ M) (hb : ∀ k, k ≤ i → (b k).natAbs ≤ M) (ho : ∀ j, j < i → (o j).natAbs ≤ E ^ (j + 1)) :
    ∀ k, k ≤ i → (subs a o b i k).natAbs + M * geo E (i - k) ≤ M + M * geo E i
  | 0, _ => by simp only [subs, Nat.sub_zero]; omega
  | k + 1, hk => by
    have ih := subs_bound ha hb ho k (by omega)
    obtain ⟨t, ht⟩ : ∃ t, i - k = t + 1 := ⟨i - k - 1, by omega⟩
    have h1 := ho (i - (k + 1)) (by omega)
    have h2 := hb (k + 1) hk
    have e1 : i - (k + 1) = t := by omega
    rw [e1] at h1 ⊢
    rw [ht] at ih
    have h3 : (o t * b (k + 1)).natAbs ≤ E ^ (t + 1) * M := by rw [Int.natAbs_mul]; exact Nat.mul_le_mul h1 h2
    have h4 : (subs a o b i (k + 1)).natAbs ≤ (subs a o b i k).natAbs + (o t * b (k + 1)).natAbs := by
      have e2 : subs a o b i (k + 1) = subs a o b i k - o t * b (k + 1) := by
        show subs a o b i k - o (i - (k + 1)) * b (k + 1) = _
        rw [e1]
      rw [e2]
      generalize o t * b (k + 1) = y
      omega
    have h5 : M * geo E (t + 1) = M * geo E t + E ^ (t + 1) * M := by
      show M * (geo E t + E ^ (t + 1)) = _
      rw [Nat.mul_add, Nat.mul_comm M (E ^ (t + 1))]
    omega
/-- Every number that the division holds on its way is small. -/
theorem subs_small {a : Int} {o b : Nat → Int} {i M : Nat} (hM : 0 < M) (ha : a.natAbs ≤ M) (hb : ∀ k, k ≤ i → (b k).natAbs ≤ M) (ho : ∀ j, j < i → (o j).natAbs ≤ (4 * M) ^ (j + 1)) {k : Nat} (hk : k ≤ i) :
    (subs a o b i k).natAbs ≤ (4 * M) ^ (i + 1) := by
  have h1 := subs_bound (E := 4 * M) ha hb ho k hk
  have h2 := geo_le (E := 4 * M) (by omega) i
  have h3 := Nat.mul_le_mul_left M h2
  have h4 : 0 < (4 * M) ^ i := Nat.pow_pos (by omega)
  have h5 : (4 * M) ^ (i + 1) = M * (2 * (4 * M) ^ i) + M * (2 * (4 * M) ^ i) := by
    rw [Nat.pow_succ]; grind
  have h6 : M ≤ M * (2 * (4 * M) ^ i) := Nat.le_mul_of_pos_right _ (by omega)
  omega
theorem overZ_small {a b : Nat → Int} {n M : Nat} (hM : 0 < M) (ha : ∀ k, k < n → (a k).natAbs ≤ M) (hb : ∀ k, k < n → (b k).natAbs ≤ M) : ∀ i, i < n → (overZ a b i).natAbs ≤ (4 * M) ^ (i + 1) := by
  intro i
  induction i using Nat.strongRecOn with
  | _ i ih =>
    intro hi
    rw [overZ_eq]
    have h := subs_small (a := a i) (o := overZ a b) (b := b) (i := i) hM (ha i hi) (fun k hk => hb k (by omega)) (fun j hj => ih j hj (by omega)) (Nat.le_refl i)
    simp only
    split
    · rw [Int.natAbs_neg]; exact h
    · exact h
end Go.Proofs.Ytonbhpadoplpkaa
