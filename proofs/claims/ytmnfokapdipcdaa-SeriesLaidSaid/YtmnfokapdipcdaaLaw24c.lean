import Derived.Test.YtmnfokapdipcdaaLaw24b
import Derived.Test.YtmnfokapdipcdaaComp
/- Plain laws of the polynomials that the laws of layer 24 make, and of what is told of them. -/
namespace Go.Proofs.Ytmnfokapdipcdaa
/-! ### right polynomials -/
theorem may_right {n : Nat} (hn : n ≤ 4096) {xs ys : List Raw} (hl : rightPoly xs = true) (hm : rightPoly ys = true) : mayE (n : Int) [xs, ys] = 0 := by
  unfold mayE
  rw [if_neg (by omega), show [xs, ys].all rightPoly = true by simp [hl, hm], if_pos rfl, if_neg (by omega)]
theorem may_right1 {n : Nat} (hn : n ≤ 4096) {xs : List Raw} (hl : rightPoly xs = true) : mayE (n : Int) [xs] = 0 := by
  unfold mayE
  rw [if_neg (by omega), show [xs].all rightPoly = true by simp [hl], if_pos rfl, if_neg (by omega)]
theorem overR_right {n : Nat} (hn : n ≤ 4096) {l m : List Int} (hl : rightPoly (l.map rawOf) = true) (hm : rightPoly (m.map rawOf) = true) (hu : (atL m 0).natAbs = 1) : overR (l.map rawOf) (m.map rawOf) n = toldZ (overZ (atL l) (atL m)) n := by
  unfold overR
  rw [may_right hn hl hm, unitAt_raw hu, zAt_raw, zAt_raw]
  simp
theorem withinR_right {n : Nat} (hn : n ≤ 4096) {l m : List Int} (hl : rightPoly (l.map rawOf) = true) (hm : rightPoly (m.map rawOf) = true) (hu : atL m 0 = 0) : withinR (l.map rawOf) (m.map rawOf) n = toldZ (hornZ (atL l) (atL m) (min l.length n) (min l.length n)) n := by
  unfold withinR
  rw [may_right hn hl hm, noughtAt_raw hu, zAt_raw, zAt_raw]
  simp
theorem turnedR_right {n : Nat} (hn : n ≤ 4096) {l : List Int} (hl : rightPoly (l.map rawOf) = true) (h0 : atL l 0 = 0) (hu : (atL l 1).natAbs = 1) : turnedR (l.map rawOf) n = toldZ (lagZ (atL [1]) (overZ (atL [1]) (atL (l.drop 1)))) n := by
  unfold turnedR
  rw [may_right1 hn hl, noughtAt_raw h0, unitAt_raw hu, ← List.map_drop, zAt_raw, one1_raw, zAt_raw]
  simp
theorem atL_drop (l : List Int) : atL (l.drop 1) = tailZ (atL l) := by
  funext k
  show (l.drop 1).getD k 0 = l.getD (k + 1) 0
  rw [List.getD_eq_getElem?_getD, List.getD_eq_getElem?_getD, List.getElem?_drop, Nat.add_comm]
theorem atL_one (m : Nat) : atL [1] m = constZ 1 m := by
  unfold atL constZ
  cases m with
  | zero => rfl
  | succ m => simp
theorem atL_past {l : List Int} {k : Nat} (h : l.length ≤ k) : atL l k = 0 := by
  unfold atL
  simp [List.getElem?_eq_none h]
/-! ### what is told -/
theorem topZ_zero {z : Nat → Int} : ∀ n i, topZ z n ≤ i → i < n → z i = 0
  | 0, _, _, h => by omega
  | n + 1, i, h1, h2 => by
    unfold topZ at h1
    split at h1
    · rename_i h0
      by_cases hi : i = n
      · rw [hi]; exact h0
      · exact topZ_zero n i h1 (by omega)
    · omega
theorem topZ_past {z : Nat → Int} {k : Nat} : ∀ d, (∀ i, k ≤ i → z i = 0) → topZ z (k + d) = topZ z k
  | 0, _ => rfl
  | d + 1, h => by
    show (if z (k + d) = 0 then topZ z (k + d) else k + d + 1) = _
    rw [if_pos (h _ (by omega))]
    exact topZ_past d h
theorem topZ_ge {z : Nat → Int} {i : Nat} (h : z i ≠ 0) : ∀ n, i < n → i < topZ z n
  | 0, hn => by omega
  | n + 1, hn => by
    unfold topZ
    split
    · rename_i h0
      by_cases hi : i = n
      · rw [hi] at h; exact absurd h0 h
      · exact topZ_ge h n (by omega)
    · omega
/-- The numbers of which is told. -/
def toldL (z : Nat → Int) (n : Nat) : List Int := (List.range (topZ z n)).map z
theorem toldL_len (z : Nat → Int) (n : Nat) : (toldL z n).length = topZ z n := by simp [toldL]
theorem toldL_at (z : Nat → Int) {n i : Nat} (h : i < n) : atL (toldL z n) i = z i := by
  by_cases hi : i < topZ z n
  · simp [atL, toldL, hi]
  · rw [atL_past (by rw [toldL_len]; omega), topZ_zero (z := z) n i (by omega) h]
theorem toldL_past (z : Nat → Int) {n i : Nat} (h : n ≤ i) : atL (toldL z n) i = 0 :=
  atL_past (by rw [toldL_len]; exact Nat.le_trans (topZ_le z n) h)
theorem toldZ_list {z : Nat → Int} {n : Nat} (h : ∀ i, i < n → nbits (z i).natAbs ≤ 262144) : toldZ z n = ((toldL z n).map rawOf, 0) := by
  rw [toldZ_ok (fun i hi => h i (Nat.lt_of_lt_of_le hi (topZ_le z n))), toldL, List.map_map]
  rfl
theorem toldL_right {z : Nat → Int} {n : Nat} (hn : n ≤ 4096) (h : ∀ i, i < n → nbits (z i).natAbs ≤ 262144) : rightPoly ((toldL z n).map rawOf) = true := by
  refine rightPoly_raw ?_ (fun x hx => ?_) ?_
  · rw [toldL_len]; exact Nat.le_trans (topZ_le z n) hn
  · obtain ⟨i, hi, rfl⟩ := List.mem_map.1 hx
    have h1 := List.mem_range.1 hi
    have h2 := h i (Nat.lt_of_lt_of_le h1 (topZ_le z n))
    have h3 : lc (z i).natAbs ≤ 4096 := lc_le_nbits.2 (by omega)
    exact h3
  · by_cases h0 : topZ z n = 0
    · left; simp [toldL, h0]
    · right
      rw [toldL_len]
      have h1 := topZ_top (z := z) (n := n) (by omega)
      have h2 : atL (toldL z n) (topZ z n - 1) = z (topZ z n - 1) := toldL_at z (by have := topZ_le z n; omega)
      unfold atL at h2
      rw [h2]; exact h1
theorem topR_raw (l : List Int) : ∀ k, k ≤ l.length → topR (l.map rawOf) k = topZ (atL l) k
  | 0, _ => rfl
  | k + 1, hk => by
    unfold topR topZ
    rw [topR_raw l k (by omega)]
    have e1 : (l.map rawOf).getD k (false, []) = rawOf (atL l k) := by
      have h1 : k < l.length := by omega
      simp [atL, h1]
    rw [e1]
    have e2 : (rawOf (atL l k)).2.length = 0 ↔ atL l k = 0 := by
      unfold rawOf
      rw [List.length_eq_zero_iff, limbs_eq_nil]
      omega
    by_cases h0 : atL l k = 0
    · rw [if_pos (e2.2 h0), if_pos h0]
    · rw [if_neg (fun e => h0 (e2.1 e)), if_neg h0]
/-- What is told of a polynomial's first numbers is the polynomial, cut off. -/
theorem cut_told {z : Nat → Int} {n : Nat} {l : List Int} (h : ∀ i, i < n → z i = atL l i) : (toldL z n).map rawOf = cutR (l.map rawOf) n := by
  have ht : topZ z n = topZ (atL l) (min l.length n) := by
    rw [topZ_congr n h]
    by_cases hl : l.length ≤ n
    · rw [Nat.min_eq_left hl]
      have := topZ_past (z := atL l) (k := l.length) (n - l.length) (fun i hi => atL_past hi)
      rwa [show l.length + (n - l.length) = n by omega] at this
    · rw [Nat.min_eq_right (by omega)]
  have hle := topZ_le (atL l) (min l.length n)
  unfold toldL cutR
  rw [ht, List.length_map, topR_raw l _ (Nat.min_le_left _ _), ← List.map_take]
  congr 1
  apply List.ext_getElem?
  intro i
  by_cases hi : i < topZ (atL l) (min l.length n)
  · have h1 : i < l.length := by omega
    rw [List.getElem?_map, List.getElem?_range hi, Option.map_some, h i (by omega), List.getElem?_take_of_lt hi]
    simp [atL, h1]
  · rw [List.getElem?_eq_none (by simp; omega), List.getElem?_eq_none (by simp; omega)]
/-! ### the polynomials that are made -/
theorem topZ_lt_atL {l : List Int} {i : Nat} (h : topZ (atL l) l.length ≤ i) : atL l i = 0 := by
  by_cases hi : i < l.length
  · exact topZ_zero l.length i h hi
  · exact atL_past (by omega)
theorem trimI_at (l : List Int) (i : Nat) : atL (trimI l) i = atL l i := by
  by_cases hi : i < topZ (atL l) l.length
  · unfold trimI
    rw [show atL (l.take (topZ (atL l) l.length)) i = atL l i by simp [atL, List.getElem?_take_of_lt hi]]
  · rw [topZ_lt_atL (l := l) (by omega), atL_past (l := trimI l)]
    unfold trimI
    rw [List.length_take]; omega
theorem trimI_len (l : List Int) : (trimI l).length = topZ (atL l) l.length := by
  unfold trimI
  rw [List.length_take]
  have := topZ_le (atL l) l.length
  omega
theorem trimI_right {l : List Int} (hl : l.length ≤ 4096) (hs : ∀ x ∈ l, x.natAbs < 18446744073709551616) : rightPoly ((trimI l).map rawOf) = true := by
  refine rightPoly_raw ?_ (fun x hx => ?_) ?_
  · rw [trimI_len]; exact Nat.le_trans (topZ_le _ _) hl
  · have h1 := hs x (List.mem_of_mem_take hx)
    have h2 : lc x.natAbs ≤ 1 := lc_limb (by rw [W64_eq]; exact h1)
    unfold lc at h2
    omega
  · by_cases h0 : topZ (atL l) l.length = 0
    · left; simp [trimI, h0]
    · right
      rw [trimI_len]
      have h1 := topZ_top (z := atL l) (n := l.length) (by omega)
      have h2 := trimI_at l (topZ (atL l) l.length - 1)
      rw [← h2] at h1
      exact h1
theorem rawL_small {l first : List Int} {k : Nat} (hf : ∀ x ∈ first, x.natAbs ≤ 1) : ∀ x ∈ rawL l first k, x.natAbs ≤ 50 := by
  intro x hx
  unfold rawL at hx
  rcases List.mem_append.1 hx with hx | hx
  · have := hf x hx; omega
  · obtain ⟨y, _, rfl⟩ := List.mem_map.1 hx
    omega
theorem rawL_len {l first : List Int} {k : Nat} (hk : k ≤ l.length) : (rawL l first k).length = first.length + k := by
  unfold rawL
  rw [List.length_append, List.length_map, List.length_take]
  omega
theorem atL_small {l : List Int} {M : Nat} (h : ∀ x ∈ l, x.natAbs ≤ M) (i : Nat) : (atL l i).natAbs ≤ M := by
  by_cases hi : i < l.length
  · rw [show atL l i = l[i] by simp [atL, hi]]
    exact h _ (List.getElem_mem hi)
  · rw [atL_past (by omega)]; omega
end Go.Proofs.Ytmnfokapdipcdaa
