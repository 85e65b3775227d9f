import Derived.Test.YtmnfokapdipcdaaLaw24
/- The laws of layer 24: awake. -/
namespace Go.Proofs.Ytmnfokapdipcdaa
open Go.RowKit Go.Deep
/-! ### polynomials out of small numbers -/
/-- The numbers of a list, noughts behind it. -/
def atL (l : List Int) (k : Nat) : Int := l.getD k 0
theorem zAt_raw (l : List Int) : zAt (l.map rawOf) = atL l := by
  funext k
  unfold zAt atL
  by_cases hk : k < l.length
  · rw [show (l.map rawOf).getD k (false, []) = rawOf l[k] by simp [hk], show l.getD k 0 = l[k] by simp [hk]]
    unfold rawOf
    simp only [val_limbs]
    exact signed_of _
  · rw [show (l.map rawOf).getD k (false, []) = (false, []) by simp [show l[k]? = none from List.getElem?_eq_none (by omega)], show l.getD k 0 = 0 by simp [show l[k]? = none from List.getElem?_eq_none (by omega)]]
    rfl
theorem rightInt_raw {x : Int} (h : (limbs x.natAbs).length ≤ 4096) : rightInt (rawOf x) = true := by
  unfold rightInt rawOf
  by_cases h0 : x = 0
  · subst h0; simp [limbs_zero]
  · have h1 : limbs x.natAbs ≠ [] := fun e => by rw [limbs_eq_nil] at e; omega
    have h2 : (limbs x.natAbs).length ≠ 0 := fun e => h1 (List.eq_nil_of_length_eq_zero e)
    rcases norm_limbs x.natAbs with h3 | h3
    · exact absurd h3 h1
    · simp only [decide_eq_true h, bne_iff_ne.2 h3, bne_iff_ne.2 h2, Bool.and_self, Bool.or_true]
theorem rightPoly_raw {l : List Int} (hl : l.length ≤ 4096) (hs : ∀ x ∈ l, (limbs x.natAbs).length ≤ 4096) (ht : l = [] ∨ l.getD (l.length - 1) 0 ≠ 0) : rightPoly (l.map rawOf) = true := by
  unfold rightPoly
  have h1 : (l.map rawOf).all rightInt = true := by
    rw [List.all_eq_true]
    intro y hy
    obtain ⟨x, hx, rfl⟩ := List.mem_map.1 hy
    exact rightInt_raw (hs x hx)
  rw [h1, List.length_map, decide_eq_true hl]
  rcases ht with rfl | ht
  · rfl
  · have hp : 0 < l.length := List.length_pos_iff.2 (fun e => ht (by subst e; rfl))
    have hk : l.length - 1 < l.length := by omega
    rw [show (l.map rawOf).getD (l.length - 1) (false, []) = rawOf l[l.length - 1] by simp [hk]]
    have h2 : l[l.length - 1] ≠ 0 := by simpa [hk] using ht
    have h3 : 0 < (rawOf l[l.length - 1]).2.length := List.length_pos_iff.2 (fun e => by
      unfold rawOf at e
      rw [limbs_eq_nil] at e
      omega)
    rw [decide_eq_true h3]; simp
theorem unitAt_raw {l : List Int} {k : Nat} (h : (l.getD k 0).natAbs = 1) : unitAt (l.map rawOf) k = true := by
  have hk : k < l.length := by
    rcases Nat.lt_or_ge k l.length with h1 | h1
    · exact h1
    · rw [show l.getD k 0 = 0 by simp [show l[k]? = none from List.getElem?_eq_none h1]] at h; cases h
  unfold unitAt
  rw [show (l.map rawOf).getD k (false, []) = rawOf (l.getD k 0) by simp [hk]]
  unfold rawOf
  rw [h, limbs_of_small (by rw [W64_eq]; omega) (by omega)]
  rfl
theorem noughtAt_raw {l : List Int} {k : Nat} (h : l.getD k 0 = 0) : noughtAt (l.map rawOf) k = true := by
  unfold noughtAt
  by_cases hk : k < l.length
  · rw [show (l.map rawOf).getD k (false, []) = rawOf (l.getD k 0) by simp [hk], h]
    simp [rawOf, limbs_zero]
  · simp [show l[k]? = none from List.getElem?_eq_none (by omega)]
theorem topZ_is {z : Nat → Int} {m : Nat} (h : m = 0 ∨ z (m - 1) ≠ 0) : ∀ d, (∀ i, m ≤ i → i < m + d → z i = 0) → topZ z (m + d) = m
  | 0, _ => by
    cases m with
    | zero => rfl
    | succ m =>
      rcases h with h | h
      · cases h
      · show (if z m = 0 then topZ z m else m + 1) = m + 1
        rw [if_neg (by simpa using h)]
  | d + 1, hz => by
    show (if z (m + d) = 0 then topZ z (m + d) else m + d + 1) = m
    rw [if_pos (hz (m + d) (by omega) (by omega))]
    exact topZ_is h d (fun i h1 h2 => hz i h1 (by omega))
theorem lt_pow_of {x k : Nat} (h : x < 18446744073709551616) (hk : 64 ≤ k) : x < 2 ^ k := by
  have h2 : (18446744073709551616 : Nat) = 2 ^ 64 := rfl
  rw [h2] at h
  exact Nat.lt_of_lt_of_le h (Nat.pow_le_pow_right (by omega) hk)
theorem nbits_small {x k : Nat} (h : x < 18446744073709551616) (hk : 64 ≤ k) : nbits x ≤ k := nbits_le.2 (lt_pow_of h hk)
/-- What is told of numbers that a list bears. -/
theorem told_is {z : Nat → Int} {n : Nat} {l : List Int} (hl : l.length ≤ n) (h : ∀ i, i < l.length → z i = atL l i) (hz : ∀ i, l.length ≤ i → i < n → z i = 0) (ht : l = [] ∨ atL l (l.length - 1) ≠ 0) (hs : ∀ i, i < l.length → (atL l i).natAbs < 18446744073709551616) :
    toldZ z n = (l.map rawOf, 0) := by
  have htop : topZ z n = l.length := by
    have h1 := topZ_is (z := z) (m := l.length) (by
      rcases ht with ht | ht
      · left; rw [ht]; rfl
      · by_cases h0 : l.length = 0
        · exact .inl h0
        · right; rw [h _ (by omega)]; exact ht) (n - l.length) (fun i h1 h2 => hz i h1 (by omega))
    rwa [show l.length + (n - l.length) = n by omega] at h1
  rw [toldZ_ok, htop]
  · congr 1
    apply List.ext_getElem?
    intro i
    by_cases hi : i < l.length
    · simp only [List.getElem?_map, List.getElem?_range hi, Option.map_some]
      rw [h i hi]
      simp [atL, hi]
    · simp [hi]
  · intro i hi
    rw [htop] at hi
    rw [h i hi]
    exact nbits_small (hs i hi) (by omega)
theorem small_len {l : List Int} (h : ∀ i, i < l.length → (atL l i).natAbs < 18446744073709551616) : ∀ x ∈ l, (limbs x.natAbs).length ≤ 4096 := by
  intro x hx
  obtain ⟨i, hi, rfl⟩ := List.getElem_of_mem hx
  have h1 := h i hi
  rw [show atL l i = l[i] by simp [atL, hi]] at h1
  have h2 : lc (l[i]).natAbs ≤ 1 := lc_limb (by rw [W64_eq]; exact h1)
  unfold lc at h2
  omega
/-- A list of small numbers that is a polynomial. -/
structure Fine (l : List Int) : Prop where
  len : l.length ≤ 4096
  small : ∀ i, i < l.length → (atL l i).natAbs < 18446744073709551616
  top : l = [] ∨ atL l (l.length - 1) ≠ 0
theorem Fine.right {l : List Int} (h : Fine l) : rightPoly (l.map rawOf) = true := rightPoly_raw h.len (small_len h.small) h.top
theorem may_fine {n : Nat} (hn : n ≤ 4096) {l m : List Int} (hl : Fine l) (hm : Fine m) : mayE (n : Int) [l.map rawOf, m.map rawOf] = 0 := by
  unfold mayE
  rw [if_neg (by omega), show [l.map rawOf, m.map rawOf].all rightPoly = true by simp [hl.right, hm.right], if_pos rfl, if_neg (by omega)]
theorem may_fine1 {n : Nat} (hn : n ≤ 4096) {l : List Int} (hl : Fine l) : mayE (n : Int) [l.map rawOf] = 0 := by
  unfold mayE
  rw [if_neg (by omega), show [l.map rawOf].all rightPoly = true by simp [hl.right], if_pos rfl, if_neg (by omega)]
theorem overR_fine {n : Nat} (hn : n ≤ 4096) {l m : List Int} (hl : Fine l) (hm : Fine m) (hu : (atL m 0).natAbs = 1) : overR (l.map rawOf) (m.map rawOf) n = toldZ (overZ (atL l) (atL m)) n := by
  unfold overR
  rw [may_fine hn hl hm, unitAt_raw hu, zAt_raw, zAt_raw]
  simp
theorem withinR_fine {n : Nat} (hn : n ≤ 4096) {l m : List Int} (hl : Fine l) (hm : Fine m) (hu : atL m 0 = 0) : withinR (l.map rawOf) (m.map rawOf) n = toldZ (hornZ (atL l) (atL m) (min l.length n) (min l.length n)) n := by
  unfold withinR
  rw [may_fine hn hl hm, noughtAt_raw hu, zAt_raw, zAt_raw]
  simp
theorem turnedR_fine {n : Nat} (hn : n ≤ 4096) {l : List Int} (hl : Fine l) (h0 : atL l 0 = 0) (hu : (atL l 1).natAbs = 1) : turnedR (l.map rawOf) n = toldZ (lagZ (atL [1]) (overZ (atL [1]) (atL (l.drop 1)))) n := by
  unfold turnedR
  rw [may_fine1 hn hl, noughtAt_raw h0, unitAt_raw hu, ← List.map_drop, zAt_raw, show one1 = [1].map rawOf by rw [one1, List.map_cons, rawOf_small (by omega) (by rw [W64_eq]; decide)]; rfl, zAt_raw]
  simp
theorem one1_raw : one1 = [1].map rawOf := by rw [one1, List.map_cons, rawOf_small (by omega) (by rw [W64_eq]; decide)]; rfl
/-! ### the examples -/
theorem ex1 : overR one1 ([1, -1, -1].map rawOf) 7 = ([1, 1, 2, 3, 5, 8, 13].map rawOf, 0) := by
  rw [one1_raw]
  refine (overR_fine (n := 7) (by decide) ⟨by decide, by decide, by decide⟩ ⟨by decide, by decide, by decide⟩ (by decide)).trans ?_
  exact told_is (by decide) (by decide) (fun i h1 h2 => absurd h2 (Nat.not_lt.2 h1)) (by decide) (by decide)
theorem ex2 : overR ([0, 1].map rawOf) ([1, -2, 1].map rawOf) 5 = ([0, 1, 2, 3, 4].map rawOf, 0) := by
  refine (overR_fine (n := 5) (by decide) ⟨by decide, by decide, by decide⟩ ⟨by decide, by decide, by decide⟩ (by decide)).trans ?_
  exact told_is (by decide) (by decide) (fun i h1 h2 => absurd h2 (Nat.not_lt.2 h1)) (by decide) (by decide)
theorem ex3 : withinR ([1, 1, 1].map rawOf) ([0, 1, 1].map rawOf) 4 = ([1, 1, 2, 2].map rawOf, 0) := by
  refine (withinR_fine (n := 4) (by decide) ⟨by decide, by decide, by decide⟩ ⟨by decide, by decide, by decide⟩ (by decide)).trans ?_
  exact told_is (by decide) (by decide) (fun i h1 h2 => absurd h2 (Nat.not_lt.2 h1)) (by decide) (by decide)
theorem ex4 : turnedR ([0, 1, -1].map rawOf) 6 = ([0, 1, 1, 2, 5, 14].map rawOf, 0) := by
  refine (turnedR_fine (n := 6) (by decide) ⟨by decide, by decide, by decide⟩ (by decide) (by decide)).trans ?_
  exact told_is (by decide) (by decide) (fun i h1 h2 => absurd h2 (Nat.not_lt.2 h1)) (by decide) (by decide)
theorem Nums.lit (w : World) (l : List Int) (cs : Array Value) (t : TypeId) (hcs : cs = (l.map (Value.int .i64)).toArray) : Nums (w.alloc (.cells cs t)) (w.heap.size + 1) (some ⟨w.heap.size, 0, none⟩) l := by
  subst hcs
  refine ⟨fun _ => ⟨_, rfl, by simp, fun j hj => ?_⟩⟩
  rw [add_plain, cell_of_row _ _ _ _ _ (0, 0) (heap_alloc_new w _)]
  simp [hj]
theorem below_trans {a b c : World} (h : Below a.heap.size a b) (k : Below b.heap.size b c) : Below a.heap.size a c := h.trans (k.mono h.size)
theorem raw_lens {l : List Int} (h : ∀ i, i < l.length → (atL l i).natAbs < 18446744073709551616) : ∀ x ∈ l.map rawOf, x.2.length ≤ 1099511627776 := by
  intro x hx
  obtain ⟨y, hy, rfl⟩ := List.mem_map.1 hx
  exact Nat.le_trans (small_len h y hy) (by omega)
theorem is_same (x : Int) (xs : List Raw) : (decide (x = x) && decide (xs = xs)) = true := by simp
set_option maxHeartbeats 1000000 in
set_option maxRecDepth 100000 in
theorem law_awake (w0 : World) : Calls Try.prog 17 #[] w0 fun e w' => e = .returned (.bool true) ∧ Below w0.heap.size w0 w' := by
  go_enter Try.func17, Try.ntmps17
  go_wp2_with fail
  refine (law_of (some ⟨w0.heap.size, 0, none⟩) 3 3 [1, -1, -1] _ (by simpa using Nums.lit w0 [1, -1, -1] _ 3 rfl) rfl (by omega) (by decide)).mono ?_
  rintro e w1 ⟨v1, rfl, ht1, hb1⟩
  have hs1 : Below w0.heap.size w0 w1 := ((Below.refl _ w0).alloc (Nat.le_refl _) _).trans (hb1.mono (by simp))
  obtain ⟨A1, c1, rfl, hc1, hp1⟩ := ht1.poly
  go_wp2_with fail
  have c2x := series_Inverse A1 3 c1 _ 7 w1 hp1 rfl hc1
  rw [ex1] at c2x
  refine c2x.mono ?_
  rintro e w2 ⟨v2, rfl, ht2, hs2⟩
  obtain ⟨A2, c2, rfl, hc2, hp2⟩ := ht2.poly
  go_wp2_with fail
  refine (law_of (some ⟨w2.heap.size, 0, none⟩) 2 2 [0, 1] _ (by simpa using Nums.lit w2 [0, 1] _ 3 rfl) rfl (by omega) (by decide)).mono ?_
  rintro e w3 ⟨v3, rfl, ht3, hb3⟩
  have hs3 : Below w2.heap.size w2 w3 := ((Below.refl _ w2).alloc (Nat.le_refl _) _).trans (hb3.mono (by simp))
  obtain ⟨A3, c3, rfl, hc3, hp3⟩ := ht3.poly
  have hp2 := (hp2.below hs3).more hs3.size
  go_wp2_with fail
  refine (law_of (some ⟨w3.heap.size, 0, none⟩) 3 3 [1, -2, 1] _ (by simpa using Nums.lit w3 [1, -2, 1] _ 3 rfl) rfl (by omega) (by decide)).mono ?_
  rintro e w4 ⟨v4, rfl, ht4, hb4⟩
  have hs4 : Below w3.heap.size w3 w4 := ((Below.refl _ w3).alloc (Nat.le_refl _) _).trans (hb4.mono (by simp))
  obtain ⟨A4, c4, rfl, hc4, hp4⟩ := ht4.poly
  have hp2 := (hp2.below hs4).more hs4.size
  have hp3 := (hp3.below hs4).more hs4.size
  go_wp2_with fail
  have c5x := series_Over A3 A4 2 c3 3 c4 _ _ 5 w4 hp3 hp4 rfl rfl hc3 hc4
  rw [ex2] at c5x
  refine c5x.mono ?_
  rintro e w5 ⟨v5, rfl, ht5, hs5⟩
  obtain ⟨A5, c5, rfl, hc5, hp5⟩ := ht5.poly
  have hp2 := (hp2.below hs5).more hs5.size
  go_wp2_with fail
  refine (law_of (some ⟨w5.heap.size, 0, none⟩) 3 3 [1, 1, 1] _ (by simpa using Nums.lit w5 [1, 1, 1] _ 3 rfl) rfl (by omega) (by decide)).mono ?_
  rintro e w6 ⟨v6, rfl, ht6, hb6⟩
  have hs6 : Below w5.heap.size w5 w6 := ((Below.refl _ w5).alloc (Nat.le_refl _) _).trans (hb6.mono (by simp))
  obtain ⟨A6, c6, rfl, hc6, hp6⟩ := ht6.poly
  have hp2 := (hp2.below hs6).more hs6.size
  have hp5 := (hp5.below hs6).more hs6.size
  go_wp2_with fail
  refine (law_of (some ⟨w6.heap.size, 0, none⟩) 3 3 [0, 1, 1] _ (by simpa using Nums.lit w6 [0, 1, 1] _ 3 rfl) rfl (by omega) (by decide)).mono ?_
  rintro e w7 ⟨v7, rfl, ht7, hb7⟩
  have hs7 : Below w6.heap.size w6 w7 := ((Below.refl _ w6).alloc (Nat.le_refl _) _).trans (hb7.mono (by simp))
  obtain ⟨A7, c7, rfl, hc7, hp7⟩ := ht7.poly
  have hp2 := (hp2.below hs7).more hs7.size
  have hp5 := (hp5.below hs7).more hs7.size
  have hp6 := (hp6.below hs7).more hs7.size
  go_wp2_with fail
  have c8x := series_Within A6 A7 3 c6 3 c7 _ _ 4 w7 hp6 hp7 rfl rfl hc6 hc7
  rw [ex3] at c8x
  refine c8x.mono ?_
  rintro e w8 ⟨v8, rfl, ht8, hs8⟩
  obtain ⟨A8, c8, rfl, hc8, hp8⟩ := ht8.poly
  have hp2 := (hp2.below hs8).more hs8.size
  have hp5 := (hp5.below hs8).more hs8.size
  go_wp2_with fail
  refine (law_of (some ⟨w8.heap.size, 0, none⟩) 3 3 [0, 1, -1] _ (by simpa using Nums.lit w8 [0, 1, -1] _ 3 rfl) rfl (by omega) (by decide)).mono ?_
  rintro e w9 ⟨v9, rfl, ht9, hb9⟩
  have hs9 : Below w8.heap.size w8 w9 := ((Below.refl _ w8).alloc (Nat.le_refl _) _).trans (hb9.mono (by simp))
  obtain ⟨A9, c9, rfl, hc9, hp9⟩ := ht9.poly
  have hp2 := (hp2.below hs9).more hs9.size
  have hp5 := (hp5.below hs9).more hs9.size
  have hp8 := (hp8.below hs9).more hs9.size
  go_wp2_with fail
  have c10x := series_Turned A9 3 c9 _ 6 w9 hp9 rfl hc9
  rw [ex4] at c10x
  refine c10x.mono ?_
  rintro e w10 ⟨v10, rfl, ht10, hs10⟩
  obtain ⟨A10, c10, rfl, hc10, hp10⟩ := ht10.poly
  have hp2 := (hp2.below hs10).more hs10.size
  have hp5 := (hp5.below hs10).more hs10.size
  have hp8 := (hp8.below hs10).more hs10.size
  go_wp2_with fail
  refine (law_of (some ⟨w10.heap.size, 0, none⟩) 7 7 [1, 1, 2, 3, 5, 8, 13] _ (by simpa using Nums.lit w10 [1, 1, 2, 3, 5, 8, 13] _ 3 rfl) rfl (by omega) (by decide)).mono ?_
  rintro e w11 ⟨v11, rfl, ht11, hb11⟩
  have hs11 : Below w10.heap.size w10 w11 := ((Below.refl _ w10).alloc (Nat.le_refl _) _).trans (hb11.mono (by simp))
  obtain ⟨A11, c11, rfl, hc11, hp11⟩ := ht11.poly
  have hp2 := (hp2.below hs11).more hs11.size
  have hp5 := (hp5.below hs11).more hs11.size
  have hp8 := (hp8.below hs11).more hs11.size
  have hp10 := (hp10.below hs11).more hs11.size
  go_wp2_with fail
  refine (law_is A2 A11 7 7 c2 c11 0 0 _ _ w11 hp2 hp11 rfl rfl (by omega) (raw_lens (by decide))).mono ?_
  rintro e w12 ⟨rfl, hs12⟩
  have hp5 := (hp5.below hs12).more hs12.size
  have hp8 := (hp8.below hs12).more hs12.size
  have hp10 := (hp10.below hs12).more hs12.size
  rw [is_same]
  go_wp2_with fail
  refine (law_of (some ⟨w12.heap.size, 0, none⟩) 5 5 [0, 1, 2, 3, 4] _ (by simpa using Nums.lit w12 [0, 1, 2, 3, 4] _ 3 rfl) rfl (by omega) (by decide)).mono ?_
  rintro e w13 ⟨v13, rfl, ht13, hb13⟩
  have hs13 : Below w12.heap.size w12 w13 := ((Below.refl _ w12).alloc (Nat.le_refl _) _).trans (hb13.mono (by simp))
  obtain ⟨A13, c13, rfl, hc13, hp13⟩ := ht13.poly
  have hp5 := (hp5.below hs13).more hs13.size
  have hp8 := (hp8.below hs13).more hs13.size
  have hp10 := (hp10.below hs13).more hs13.size
  go_wp2_with fail
  refine (law_is A5 A13 5 5 c5 c13 0 0 _ _ w13 hp5 hp13 rfl rfl (by omega) (raw_lens (by decide))).mono ?_
  rintro e w14 ⟨rfl, hs14⟩
  have hp8 := (hp8.below hs14).more hs14.size
  have hp10 := (hp10.below hs14).more hs14.size
  rw [is_same]
  go_wp2_with fail
  refine (law_of (some ⟨w14.heap.size, 0, none⟩) 4 4 [1, 1, 2, 2] _ (by simpa using Nums.lit w14 [1, 1, 2, 2] _ 3 rfl) rfl (by omega) (by decide)).mono ?_
  rintro e w15 ⟨v15, rfl, ht15, hb15⟩
  have hs15 : Below w14.heap.size w14 w15 := ((Below.refl _ w14).alloc (Nat.le_refl _) _).trans (hb15.mono (by simp))
  obtain ⟨A15, c15, rfl, hc15, hp15⟩ := ht15.poly
  have hp8 := (hp8.below hs15).more hs15.size
  have hp10 := (hp10.below hs15).more hs15.size
  go_wp2_with fail
  refine (law_is A8 A15 4 4 c8 c15 0 0 _ _ w15 hp8 hp15 rfl rfl (by omega) (raw_lens (by decide))).mono ?_
  rintro e w16 ⟨rfl, hs16⟩
  have hp10 := (hp10.below hs16).more hs16.size
  rw [is_same]
  go_wp2_with fail
  refine (law_of (some ⟨w16.heap.size, 0, none⟩) 6 6 [0, 1, 1, 2, 5, 14] _ (by simpa using Nums.lit w16 [0, 1, 1, 2, 5, 14] _ 3 rfl) rfl (by omega) (by decide)).mono ?_
  rintro e w17 ⟨v17, rfl, ht17, hb17⟩
  have hs17 : Below w16.heap.size w16 w17 := ((Below.refl _ w16).alloc (Nat.le_refl _) _).trans (hb17.mono (by simp))
  obtain ⟨A17, c17, rfl, hc17, hp17⟩ := ht17.poly
  have hp10 := (hp10.below hs17).more hs17.size
  go_wp2_with fail
  refine (law_is A10 A17 6 6 c10 c17 0 0 _ _ w17 hp10 hp17 rfl rfl (by omega) (raw_lens (by decide))).mono ?_
  rintro e w18 ⟨rfl, hs18⟩
  rw [is_same]
  go_wp2_with fail
  go_ret
  exact ⟨rfl, (below_trans (below_trans (below_trans (below_trans (below_trans (below_trans (below_trans (below_trans (below_trans (below_trans (below_trans (below_trans (below_trans (below_trans (below_trans (below_trans (below_trans hs1 hs2) hs3) hs4) hs5) hs6) hs7) hs8) hs9) hs10) hs11) hs12) hs13) hs14) hs15) hs16) hs17) hs18)⟩
end Go.Proofs.Ytmnfokapdipcdaa
