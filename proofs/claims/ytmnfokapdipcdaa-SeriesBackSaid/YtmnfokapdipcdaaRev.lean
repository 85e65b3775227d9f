import Derived.Test.YtmnfokapdipcdaaComp
/- Plain laws of power series: the series that undoes another; what the program reckons is it. -/
namespace Go.Proofs.Ytmnfokapdipcdaa
theorem compZ_congr_right {a q q' : Nat → Int} (hq : q 0 = 0) (hq' : q' 0 = 0) (m : Nat) (h : ∀ j, j ≤ m → q j = q' j) : compZ a q m = compZ a q' m := by
  induction m using Nat.strongRecOn generalizing a with
  | _ m ih =>
    rw [compZ_step hq, compZ_step hq', mulZ_low hq (fun j hj => ih j hj (fun i hi => h i (by omega)) (a := tailZ a)), mulZ_congr h (fun _ _ => rfl)]
/-- The first n numbers of the series that undoes p. -/
def revL (p : Nat → Int) : Nat → List Int
  | 0 => []
  | n + 1 => revL p n ++ [if n = 0 then 0 else ((if n = 1 then 1 else 0) - compZ p (fun j => (revL p n).getD j 0) n) * p 1]
theorem revL_length (p : Nat → Int) (n : Nat) : (revL p n).length = n := by
  induction n with
  | zero => rfl
  | succ n ih => simp [revL, ih]
def revZ (p : Nat → Int) (k : Nat) : Int := (revL p (k + 1)).getD k 0
theorem revL_getD (p : Nat → Int) {n i : Nat} (h : i < n) : (revL p n).getD i 0 = revZ p i := by
  induction n with
  | zero => omega
  | succ n ih =>
    by_cases hi : i = n
    · subst hi; rfl
    · rw [← ih (by omega)]
      simp [revL, List.getElem?_append_left, revL_length, show i < n by omega]
theorem revL_past (p : Nat → Int) {n i : Nat} (h : n ≤ i) : (revL p n).getD i 0 = 0 := by
  simp [List.getElem?_eq_none (show (revL p n).length ≤ i by rw [revL_length]; exact h)]
theorem revZ_zero (p : Nat → Int) : revZ p 0 = 0 := rfl
/-- The first n numbers, noughts behind them. -/
def cutZ (q : Nat → Int) (n m : Nat) : Int := if m < n then q m else 0
theorem revL_cut (p : Nat → Int) (n m : Nat) : (revL p n).getD m 0 = cutZ (revZ p) n m := by
  unfold cutZ
  by_cases h : m < n
  · rw [if_pos h, revL_getD p h]
  · rw [if_neg h, revL_past p (by omega)]
theorem revZ_step (p : Nat → Int) (n : Nat) (hn : 1 ≤ n) : revZ p n = ((if n = 1 then 1 else 0) - compZ p (cutZ (revZ p) n) n) * p 1 := by
  have e : (fun j => (revL p n).getD j 0) = cutZ (revZ p) n := funext (revL_cut p n)
  show (revL p (n + 1)).getD n 0 = _
  rw [show (revL p (n + 1)).getD n 0 = (if n = 0 then 0 else ((if n = 1 then 1 else 0) - compZ p (fun j => (revL p n).getD j 0) n) * p 1) by simp [revL, revL_length], if_neg (by omega), e]
/-- What the number at its own place adds. -/
theorem comp_last {p r : Nat → Int} (hr : r 0 = 0) (m : Nat) : compZ p r (m + 1) = compZ p (cutZ r (m + 1)) (m + 1) + p 1 * r (m + 1) := by
  have hc : cutZ r (m + 1) 0 = 0 := by simp [cutZ, hr]
  rw [compZ_step hr, compZ_step hc, mulZ_left r, mulZ_left (cutZ r (m + 1)), hr, hc]
  have hb : ∀ j, j ≤ m → compZ (tailZ p) r j = compZ (tailZ p) (cutZ r (m + 1)) j := fun j hj =>
    compZ_congr_right hr hc j (fun i hi => by simp [cutZ, show i < m + 1 by omega])
  have hb0 : compZ (tailZ p) (cutZ r (m + 1)) 0 = p 1 := by rw [compZ_zero_at hc]; rfl
  rw [mulZ_congr (a := tailZ r) (fun _ _ => rfl) hb]
  cases m with
  | zero =>
    rw [mulZ_zero_at, mulZ_zero_at, hb0]
    simp only [tailZ, cutZ]
    simp [constZ, Int.mul_comm]
  | succ m =>
    rw [mulZ_right, mulZ_right (tailZ (cutZ r (m + 1 + 1))), hb0]
    have h1 : tailZ (cutZ r (m + 1 + 1)) (m + 1) = 0 := by simp [tailZ, cutZ]
    rw [h1, mulZ_congr (a := tailZ r) (a' := tailZ (cutZ r (m + 1 + 1))) (fun j hj => by simp [tailZ, cutZ, show j + 1 < m + 1 + 1 by omega]) (fun _ _ => rfl), Int.mul_comm (p 1)]
    simp only [tailZ]
    omega
theorem rev_right {p : Nat → Int} (hp : p 0 = 0) (h1 : p 1 * p 1 = 1) (m : Nat) : compZ p (revZ p) m = xZ m := by
  cases m with
  | zero => rw [compZ_zero_at (revZ_zero p), hp]; rfl
  | succ m =>
    rw [comp_last (revZ_zero p), revZ_step p (m + 1) (by omega), ← Int.mul_assoc, Int.mul_comm (p 1), Int.mul_assoc, h1]
    unfold xZ
    by_cases hm : m + 1 = 1
    · rw [if_pos hm]; omega
    · rw [if_neg hm]; omega
theorem revZ_one {p : Nat → Int} : revZ p 1 = p 1 := by
  rw [revZ_step p 1 (Nat.le_refl _)]
  have hc : cutZ (revZ p) 1 0 = 0 := rfl
  have h : compZ p (cutZ (revZ p) 1) 1 = 0 := by
    rw [compZ_step hc, mulZ_left, mulZ_zero_at]
    simp [cutZ, tailZ, constZ, revZ_zero]
  rw [h]; simp
/-- It is the series' own undoing from both sides. -/
theorem rev_left {p : Nat → Int} (hp : p 0 = 0) (h1 : p 1 * p 1 = 1) (m : Nat) : compZ (revZ p) p m = xZ m := by
  have hr0 := revZ_zero p
  have hs0 := revZ_zero (revZ p)
  have hr1 : revZ p 1 * revZ p 1 = 1 := by rw [revZ_one]; exact h1
  have hrs := rev_right hr0 hr1
  have hsp : ∀ k, revZ (revZ p) k = p k := by
    intro k
    have e1 : compZ (compZ p (revZ p)) (revZ (revZ p)) k = revZ (revZ p) k := by
      rw [compZ_congr hs0 k (fun j _ => rev_right hp h1 j), compZ_x hs0]
    have e2 : compZ (compZ p (revZ p)) (revZ (revZ p)) k = p k := by
      rw [compZ_assoc hr0 hs0]
      have hx : xZ 0 = 0 := rfl
      have hc : compZ (revZ p) (revZ (revZ p)) 0 = 0 := by rw [hrs 0]; rfl
      rw [compZ_congr_right hc hx k (fun j _ => hrs j), compZ_id]
    rw [← e1, e2]
  rw [← hrs m]
  exact compZ_congr_right hp hs0 m (fun j _ => (hsp j).symm)
/-- What undoes what undoes it is the series. -/
theorem rev_rev {p : Nat → Int} (hp : p 0 = 0) (h1 : p 1 * p 1 = 1) (k : Nat) : revZ (revZ p) k = p k := by
  have hr0 := revZ_zero p
  have hs0 := revZ_zero (revZ p)
  have hr1 : revZ p 1 * revZ p 1 = 1 := by rw [revZ_one]; exact h1
  have hrs := rev_right hr0 hr1
  have e1 : compZ (compZ p (revZ p)) (revZ (revZ p)) k = revZ (revZ p) k := by
    rw [compZ_congr hs0 k (fun j _ => rev_right hp h1 j), compZ_x hs0]
  have e2 : compZ (compZ p (revZ p)) (revZ (revZ p)) k = p k := by
    rw [compZ_assoc hr0 hs0]
    have hx : xZ 0 = 0 := rfl
    have hc : compZ (revZ p) (revZ (revZ p)) 0 = 0 := by rw [hrs 0]; rfl
    rw [compZ_congr_right hc hx k (fun j _ => hrs j), compZ_id]
  rw [← e1, e2]
/-- Only the numbers up to a place tell the number at that place. -/
theorem revZ_congr {p p' : Nat → Int} : ∀ m, (∀ j, j ≤ m → p j = p' j) → (∀ j, j ≤ 1 → p j = p' j) → revZ p m = revZ p' m := by
  intro m
  induction m using Nat.strongRecOn with
  | _ m ih =>
    intro h hl
    by_cases hm : m = 0
    · subst hm; rfl
    · have hc : cutZ (revZ p) m 0 = 0 := by simp [cutZ, revZ_zero]
      have hc' : cutZ (revZ p') m 0 = 0 := by simp [cutZ, revZ_zero]
      rw [revZ_step p m (by omega), revZ_step p' m (by omega), hl 1 (Nat.le_refl _), compZ_congr hc m h, compZ_congr_right hc hc' m (fun j _ => by
        unfold cutZ
        by_cases hj : j < m
        · rw [if_pos hj, if_pos hj, ih j hj (fun i hi => h i (by omega)) hl]
        · rw [if_neg hj, if_neg hj])]

/-! ### what the program reckons -/
theorem horn_comp {a b : Nat → Int} (hb : b 0 = 0) (K m : Nat) : ∀ k, k ≤ K → hornZ a b K k m = compZ (fun j => if j < k then a (K - k + j) else 0) b m
  | 0, _ => by
    rw [compZ_congr hb (a' := fun n => 0 * xZ n) m (fun j _ => by simp), compZ_scale hb]; simp [hornZ]
  | k + 1, hk => by
    rw [compZ_step hb]
    show mulZ (hornZ a b K k) b m + (if m = 0 then a (K - 1 - k) else 0) = _
    have e : ∀ j, compZ (tailZ fun j => if j < k + 1 then a (K - (k + 1) + j) else 0) b j = hornZ a b K k j := by
      intro j
      rw [horn_comp hb K j k (by omega)]
      refine compZ_congr hb j (fun i _ => ?_)
      simp only [tailZ]
      by_cases hi : i < k
      · rw [if_pos (by omega), if_pos hi, show K - (k + 1) + (i + 1) = K - k + i by omega]
      · rw [if_neg (by omega), if_neg hi]
    rw [mulZ_congr (a := b) (b' := hornZ a b K k) (fun _ _ => rfl) (fun j _ => e j), mulZ_comm b]
    have e0 : (if 0 < k + 1 then a (K - (k + 1) + 0) else 0) = a (K - 1 - k) := by
      rw [if_pos (by omega), show K - (k + 1) + 0 = K - 1 - k by omega]
    show _ = (if m = 0 then (if 0 < k + 1 then a (K - (k + 1) + 0) else 0) else 0) + _
    rw [e0]
    omega
/-- By Horner it is the one in the place of the other's x. -/
theorem horn_is {a b : Nat → Int} (hb : b 0 = 0) {K m : Nat} (h : ∀ j, j ≤ m → K ≤ j → a j = 0) : hornZ a b K K m = compZ a b m := by
  rw [horn_comp hb K m K (Nat.le_refl _)]
  refine compZ_congr hb m (fun j hj => ?_)
  by_cases hk : j < K
  · rw [if_pos hk, Nat.sub_self, Nat.zero_add]
  · rw [if_neg hk, h j hj (by omega)]
theorem powZ_is {a f : Nat → Int} (ha : ∀ m, a m = constZ 1 m) (k m : Nat) : powZ a f k m = pwZ f k m := by
  induction k generalizing m with
  | zero => exact ha m
  | succ k ih => exact mulZ_congr (fun j _ => ih j) (fun _ _ => rfl)
theorem subs_conv (a : Int) (o b : Nat → Int) (i : Nat) : ∀ k, k ≤ i → subs a o b i k = a - (convS b o (k + 1) i - b 0 * o i)
  | 0, _ => by
    rw [convS_succ]
    simp [subs, convS]
  | k + 1, hk => by
    show subs a o b i k - o (i - (k + 1)) * b (k + 1) = _
    rw [subs_conv a o b i k (by omega), convS_succ b o (k + 1), if_pos hk, Int.mul_comm (o (i - (k + 1)))]
    omega
/-- A quotient times what was divided by is what was divided. -/
theorem over_mul {a b : Nat → Int} (hb : (b 0).natAbs = 1) (m : Nat) : mulZ b (overZ a b) m = a m := by
  have h1 := subs_conv (a m) (overZ a b) b m m (Nat.le_refl m)
  have h2 := overZ_eq a b m
  simp only at h2
  show convS b (overZ a b) (m + 1) m = _
  have h3 : b 0 * overZ a b m = subs (a m) (overZ a b) b m m := by
    rw [h2]
    have h4 : b 0 = 1 ∨ b 0 = -1 := by omega
    rcases h4 with h4 | h4
    · rw [h4]; simp
    · rw [h4]; simp
  omega
theorem undo_prod {p a : Nat → Int} (hp : p 0 = 0) (h1 : (p 1).natAbs = 1) (ha : ∀ m, a m = constZ 1 m) (m : Nat) : mulZ p (overZ a (tailZ p)) m = xZ m := by
  cases m with
  | zero => rw [mulZ_zero_at, hp]; simp [xZ]
  | succ m =>
    rw [mulZ_left, hp, over_mul (b := tailZ p) h1 m, ha m]
    unfold constZ xZ
    by_cases hm : m = 0
    · subst hm; simp
    · rw [if_neg hm, if_neg (by omega)]; simp
theorem sq_one {x : Int} (h : x.natAbs = 1) : x * x = 1 := by
  have h4 : x = 1 ∨ x = -1 := by omega
  rcases h4 with h4 | h4 <;> rw [h4] <;> rfl
/-- What Lagrange's formula tells is the series that undoes p. -/
theorem lag_is {p a : Nat → Int} (hp : p 0 = 0) (h1 : (p 1).natAbs = 1) (ha : ∀ m, a m = constZ 1 m) (m : Nat) : lagZ a (overZ a (tailZ p)) m = revZ p m := by
  unfold lagZ
  cases m with
  | zero => rfl
  | succ m =>
    have h2 := lagrange hp (undo_prod hp h1 ha) (rev_left hp (sq_one h1)) m
    rw [if_neg (by omega), powZ_is ha, Nat.add_sub_cancel, ← h2, show ((m + 1 : Nat) : Int) = (m : Int) + 1 by omega, Int.mul_tdiv_cancel_left _ (by omega)]
/-! ### what is told, of numbers that are the same -/
theorem topZ_congr {z z' : Nat → Int} : ∀ n, (∀ i, i < n → z i = z' i) → topZ z n = topZ z' n
  | 0, _ => rfl
  | n + 1, h => by
    unfold topZ
    rw [h n (by omega), topZ_congr n (fun i hi => h i (by omega))]
theorem toldZ_congr {z z' : Nat → Int} {n : Nat} (h : ∀ i, i < n → z i = z' i) : toldZ z n = toldZ z' n := by
  unfold toldZ
  rw [topZ_congr n h]
  have ht := topZ_le z' n
  have h1 : (List.range (topZ z' n)).any (fun i => decide (262144 < nbits (z i).natAbs)) = (List.range (topZ z' n)).any (fun i => decide (262144 < nbits (z' i).natAbs)) := by
    rw [Bool.eq_iff_iff, List.any_eq_true, List.any_eq_true]
    constructor
    · rintro ⟨i, hi, hb⟩
      have := List.mem_range.1 hi
      exact ⟨i, hi, by rw [← h i (by omega)]; exact hb⟩
    · rintro ⟨i, hi, hb⟩
      have := List.mem_range.1 hi
      exact ⟨i, hi, by rw [h i (by omega)]; exact hb⟩
  have h2 : (List.range (topZ z' n)).map (fun i => rawOf (z i)) = (List.range (topZ z' n)).map (fun i => rawOf (z' i)) := by
    apply List.map_congr_left
    intro i hi
    have := List.mem_range.1 hi
    rw [h i (by omega)]
  rw [h1, h2]
end Go.Proofs.Ytmnfokapdipcdaa
