import Derived.Test.YtmnfokapdipcdaaLaw24c
/- Plain laws of the polynomials in SeriesBack and SeriesLaid. -/
namespace Go.Proofs.Ytmnfokapdipcdaa
theorem mul_cancel {q a b : Nat → Int} (hq : (q 0).natAbs = 1) {n : Nat} (h : ∀ m, m < n → mulZ q a m = mulZ q b m) : ∀ m, m < n → a m = b m := by
  intro m
  induction m using Nat.strongRecOn with
  | _ m ih =>
    intro hm
    have h1 := h m hm
    have hq0 : q 0 ≠ 0 := by omega
    cases m with
    | zero =>
      rw [mulZ_zero_at, mulZ_zero_at] at h1
      exact Int.eq_of_mul_eq_mul_left hq0 h1
    | succ m =>
      rw [mulZ_left, mulZ_left, mulZ_congr (a := tailZ q) (a' := tailZ q) (b := a) (b' := b) (fun _ _ => rfl) (fun j hj => ih j (by omega) (by omega))] at h1
      exact Int.eq_of_mul_eq_mul_left hq0 (by omega : q 0 * a (m + 1) = q 0 * b (m + 1))
theorem toldL_congr {z z' : Nat → Int} {n : Nat} (h : ∀ i, i < n → z i = z' i) : toldL z n = toldL z' n := by
  unfold toldL
  rw [topZ_congr n h]
  refine List.map_congr_left fun i hi => h i ?_
  exact Nat.lt_of_lt_of_le (List.mem_range.1 hi) (topZ_le z' n)
/-- The product's numbers are small. -/
def Mild (l : List Int) : Prop := ∀ k, (atL l k).natAbs < W64 ^ 9
theorem lt_mild_at {x e k : Nat} (h : x ≤ 2 ^ e) (he : e < 64 * k) : x < W64 ^ k := by
  rw [W64_pow]
  exact Nat.lt_of_le_of_lt h (Nat.pow_lt_pow_right (by omega) he)
theorem lt_mild {x e : Nat} (h : x ≤ 2 ^ e) (he : e < 576) : x < W64 ^ 9 := lt_mild_at h (by omega)
theorem mild_bits_at {x k : Nat} (h : x < W64 ^ k) (hk : k ≤ 9) : nbits x ≤ 262144 := by
  rw [W64_pow, ← nbits_le] at h
  omega
theorem mild_bits {x : Nat} (h : x < W64 ^ 9) : nbits x ≤ 262144 := mild_bits_at h (by omega)
theorem mild_of {l : List Int} {M : Nat} (hM : M < W64 ^ 9) (h : ∀ k, (atL l k).natAbs ≤ M) : Mild l := fun k => Nat.lt_of_le_of_lt (h k) hM
theorem told_small {z : Nat → Int} {n M : Nat} (h : ∀ i, i < n → (z i).natAbs ≤ M) (k : Nat) : (atL (toldL z n) k).natAbs ≤ M := by
  by_cases hk : k < n
  · rw [toldL_at z hk]; exact h k hk
  · rw [toldL_past z (by omega)]; exact Nat.zero_le _
section
variable {P Q : List Int} {n : Nat}
structure BackP (P Q : List Int) (n : Nat) : Prop where
  hp : rightPoly (P.map rawOf) = true
  hq : rightPoly (Q.map rawOf) = true
  h0 : (atL Q 0).natAbs = 1
  ps : ∀ k, (atL P k).natAbs ≤ 50
  qs : ∀ k, (atL Q k).natAbs ≤ 50
  hn : n ≤ 19
/-- The inverse's numbers, the quotient's. -/
def invZ (Q : List Int) : Nat → Int := overZ (atL [1]) (atL Q)
def quoZ (P Q : List Int) : Nat → Int := overZ (atL P) (atL Q)
theorem pow_back : 200 ^ 20 < W64 ^ 9 := lt_mild (e := 160) (by decide) (by omega)
theorem quo_small {a : Nat → Int} (ha : ∀ k, (a k).natAbs ≤ 50) (h : BackP P Q n) (k : Nat) (hk : k < 20) : (overZ a (atL Q) k).natAbs ≤ 200 ^ 20 :=
  Nat.le_trans (overZ_small (n := 20) (M := 50) (by omega) (fun j _ => ha j) (fun j _ => h.qs j) k hk) (Nat.pow_le_pow_right (by omega) (by omega))
theorem one_small (k : Nat) : (atL [1] k).natAbs ≤ 50 := Nat.le_trans (atL_small (l := [1]) (M := 1) (by simp) k) (by omega)
theorem inv_bits (h : BackP P Q n) (i : Nat) (hi : i < 20) : nbits (invZ Q i).natAbs ≤ 262144 := mild_bits (Nat.lt_of_le_of_lt (quo_small one_small h i hi) pow_back)
theorem quo_bits (h : BackP P Q n) (i : Nat) (hi : i < 20) : nbits (quoZ P Q i).natAbs ≤ 262144 := mild_bits (Nat.lt_of_le_of_lt (quo_small h.ps h i hi) pow_back)
theorem one_right : rightPoly ([1].map rawOf) = true := rightPoly_raw (by decide) (fun x hx => by
  rw [List.mem_singleton.1 hx]
  have h1 : lc (1 : Int).natAbs ≤ 1 := lc_limb (by rw [W64_eq]; decide)
  unfold lc at h1
  omega) (.inr (by decide))
theorem back_inv (h : BackP P Q n) (k : Nat) (hk : k ≤ 19) : overR one1 (Q.map rawOf) k = ((toldL (invZ Q) k).map rawOf, 0) := by
  rw [one1_raw, overR_right (by omega) one_right h.hq h.h0]
  exact toldZ_list fun i hi => inv_bits h i (by omega)
theorem back_quo (h : BackP P Q n) : overR (P.map rawOf) (Q.map rawOf) n = ((toldL (quoZ P Q) n).map rawOf, 0) := by
  have hn := h.hn
  rw [overR_right (by omega) h.hp h.hq h.h0]
  exact toldZ_list fun i hi => quo_bits h i (by omega)
theorem back_cut {k : Nat} (hk : k ≤ n) : cutR ((toldL (invZ Q) n).map rawOf) k = (toldL (invZ Q) k).map rawOf :=
  (cut_told fun i hi => (toldL_at _ (by omega)).symm).symm
theorem inv_mul (h : BackP P Q n) (m : Nat) : mulZ (atL Q) (invZ Q) m = constZ 1 m := (over_mul h.h0 m).trans (atL_one m)
theorem back_one (h : BackP P Q n) : (toldL (mulZ (atL (toldL (invZ Q) n)) (atL Q)) n).map rawOf = cutR ([1].map rawOf) n := by
  refine cut_told fun i hi => ?_
  rw [mulZ_congr (a' := invZ Q) (b' := atL Q) (fun j hj => toldL_at _ (by omega)) (fun _ _ => rfl), mulZ_comm]
  exact over_mul h.h0 i
theorem back_p (h : BackP P Q n) : (toldL (mulZ (atL (toldL (quoZ P Q) n)) (atL Q)) n).map rawOf = cutR (P.map rawOf) n := by
  refine cut_told fun i hi => ?_
  rw [mulZ_congr (a' := quoZ P Q) (b' := atL Q) (fun j hj => toldL_at _ (by omega)) (fun _ _ => rfl), mulZ_comm]
  exact over_mul h.h0 i
theorem mulZ_one_right (a : Nat → Int) (m : Nat) : mulZ a (constZ 1) m = a m := by rw [mulZ_comm, mulZ_one]
theorem back_c (h : BackP P Q n) : toldL (mulZ (atL P) (atL (toldL (invZ Q) n))) n = toldL (quoZ P Q) n := by
  refine toldL_congr fun i hi => ?_
  rw [mulZ_congr (a' := atL P) (b' := invZ Q) (fun _ _ => rfl) (fun j hj => toldL_at _ (by omega))]
  refine mul_cancel (q := atL Q) h.h0 (n := n) (fun m _ => ?_) i hi
  rw [show mulZ (atL Q) (quoZ P Q) m = atL P m from over_mul h.h0 m, ← mulZ_assoc, mulZ_congr (a' := mulZ (atL P) (atL Q)) (b' := invZ Q) (fun j _ => mulZ_comm _ _ j) (fun _ _ => rfl), mulZ_assoc,
    mulZ_congr (a' := atL P) (b' := constZ 1) (fun _ _ => rfl) (fun j _ => inv_mul h j), mulZ_one_right]
theorem inv_zero (h : BackP P Q n) : (invZ Q 0).natAbs = 1 := by
  have h1 := inv_mul h 0
  rw [mulZ_zero_at] at h1
  have h2 : (atL Q 0 * invZ Q 0).natAbs = 1 := by rw [h1]; rfl
  rw [Int.natAbs_mul, h.h0] at h2
  omega
theorem inv_right (h : BackP P Q n) : rightPoly ((toldL (invZ Q) n).map rawOf) = true := toldL_right (by have := h.hn; omega) fun i hi => inv_bits h i (by have := h.hn; omega)
theorem back_back (h : BackP P Q n) (h0 : 0 < n) : overR one1 ((toldL (invZ Q) n).map rawOf) n = (cutR (Q.map rawOf) n, 0) := by
  have hn := h.hn
  have hA : (atL (toldL (invZ Q) n) 0).natAbs = 1 := by rw [toldL_at _ h0]; exact inv_zero h
  rw [one1_raw, overR_right (by omega) one_right (inv_right h) hA]
  have hz : ∀ i, i < n → overZ (atL [1]) (atL (toldL (invZ Q) n)) i = atL Q i := by
    refine mul_cancel (q := atL (toldL (invZ Q) n)) hA fun m hm => ?_
    rw [over_mul hA m, mulZ_comm, mulZ_congr (a' := atL Q) (b' := invZ Q) (fun _ _ => rfl) (fun j hj => toldL_at _ (by omega)), inv_mul h m, atL_one]
  rw [toldZ_list fun i hi => by rw [hz i hi]; exact mild_bits (Nat.lt_of_le_of_lt (h.qs i) (lt_mild (e := 6) (by decide) (by omega))), cut_told hz]
theorem back_mildA (h : BackP P Q n) : Mild (toldL (invZ Q) n) := mild_of pow_back (told_small fun i hi => quo_small one_small h i (by have := h.hn; omega))
theorem back_mildC (h : BackP P Q n) : Mild (toldL (quoZ P Q) n) := mild_of pow_back (told_small fun i hi => quo_small h.ps h i (by have := h.hn; omega))
theorem mild_small {l : List Int} (h : ∀ k, (atL l k).natAbs ≤ 50) : Mild l := mild_of (lt_mild (e := 6) (by decide) (by omega)) h
end
theorem back_poly {l : List Int} {s : Int} {N : Nat} (hN : N ≤ l.length) (hN2 : N ≤ 12) (hs : s.natAbs = 1) :
    rightPoly ((trimI (rawL l [s] N)).map rawOf) = true ∧ (atL (trimI (rawL l [s] N)) 0).natAbs = 1 ∧ ∀ k, (atL (trimI (rawL l [s] N)) k).natAbs ≤ 50 := by
  have hsm := rawL_small (l := l) (first := [s]) (k := N) (by simp; omega)
  refine ⟨trimI_right ?_ (fun x hx => ?_), ?_, fun k => ?_⟩
  · rw [rawL_len hN]; simp; omega
  · have := hsm x hx; omega
  · rw [trimI_at]; exact hs
  · rw [trimI_at]; exact atL_small hsm k
theorem free_poly {l : List Int} {N : Nat} (hN : N ≤ l.length) (hN2 : N ≤ 12) :
    rightPoly ((trimI (rawL l [] N)).map rawOf) = true ∧ (trimI (rawL l [] N)).length ≤ 12 ∧ ∀ k, (atL (trimI (rawL l [] N)) k).natAbs ≤ 50 := by
  have hsm := rawL_small (l := l) (first := []) (k := N) (by simp)
  refine ⟨trimI_right ?_ (fun x hx => ?_), ?_, fun k => ?_⟩
  · rw [rawL_len hN]; simp; omega
  · have := hsm x hx; omega
  · rw [trimI_len]
    have h1 := topZ_le (atL (rawL l [] N)) (rawL l [] N).length
    rw [rawL_len hN] at h1 ⊢
    simp at h1 ⊢
    omega
  · rw [trimI_at]; exact atL_small hsm k
theorem laid_poly {l : List Int} {N : Nat} (hN : N ≤ l.length) (hN2 : N ≤ 12) :
    rightPoly ((trimI (rawL l [0] N)).map rawOf) = true ∧ atL (trimI (rawL l [0] N)) 0 = 0 ∧ ∀ k, (atL (trimI (rawL l [0] N)) k).natAbs ≤ 50 := by
  have hsm := rawL_small (l := l) (first := [0]) (k := N) (by simp)
  refine ⟨trimI_right ?_ (fun x hx => ?_), ?_, fun k => ?_⟩
  · rw [rawL_len hN]; simp; omega
  · have := hsm x hx; omega
  · rw [trimI_at]; rfl
  · rw [trimI_at]; exact atL_small hsm k
/-! ### laid -/
structure LaidP (P R Q : List Int) (n : Nat) : Prop where
  hp : rightPoly (P.map rawOf) = true
  hr : rightPoly (R.map rawOf) = true
  hq : rightPoly (Q.map rawOf) = true
  h0 : atL Q 0 = 0
  ps : ∀ k, (atL P k).natAbs ≤ 50
  rs : ∀ k, (atL R k).natAbs ≤ 50
  qs : ∀ k, (atL Q k).natAbs ≤ 50
  hn : n ≤ 11
section
variable {P R Q : List Int} {n : Nat}
theorem pow_laid {k M : Nat} (hk : k ≤ 11) (hM : M ≤ 30000) : (8192 * M) ^ k < W64 ^ 9 := by
  refine lt_mild (e := 28 * k) ?_ (by omega)
  rw [Nat.pow_mul]
  exact Nat.pow_le_pow_left (Nat.le_trans (Nat.mul_le_mul_left 8192 hM) (by decide)) k
/-- With Q in the place of x. -/
theorem laid_within {X : List Int} {M : Nat} (hM0 : 50 ≤ M) (hM : M ≤ 30000) (hn : n ≤ 11) (hx : rightPoly (X.map rawOf) = true) (hq : rightPoly (Q.map rawOf) = true) (h0 : atL Q 0 = 0) (xs : ∀ k, (atL X k).natAbs ≤ M) (qs : ∀ k, (atL Q k).natAbs ≤ 50) :
    (∀ i, i < n → (compZ (atL X) (atL Q) i).natAbs < W64 ^ 9) ∧ withinR (X.map rawOf) (Q.map rawOf) n = ((toldL (compZ (atL X) (atL Q)) n).map rawOf, 0) := by
  have hz : ∀ i, i < n → hornZ (atL X) (atL Q) (min X.length n) (min X.length n) i = compZ (atL X) (atL Q) i := fun i hi => horn_is h0 (fun j hj hk => atL_past (by omega))
  have hb : ∀ i, i < n → (compZ (atL X) (atL Q) i).natAbs < W64 ^ 9 := fun i hi => by
    rw [← hz i hi]
    exact Nat.lt_of_le_of_lt (hornZ_small (n := n) (M := M) (by omega) (by omega) xs (fun k => Nat.le_trans (qs k) hM0) _ i hi) (pow_laid (by omega) hM)
  refine ⟨hb, ?_⟩
  rw [withinR_right (by omega) hx hq h0, toldZ_congr hz]
  exact toldZ_list fun i hi => mild_bits (hb i hi)
theorem laid_mild {X : List Int} (h : ∀ i, i < n → (compZ (atL X) (atL Q) i).natAbs < W64 ^ 9) : Mild (toldL (compZ (atL X) (atL Q)) n) := fun k => by
  by_cases hk : k < n
  · rw [toldL_at _ hk]; exact h k hk
  · rw [toldL_past _ (by omega)]; exact Nat.pow_pos W64_pos
theorem laid_prod (h : LaidP P R Q n) : ∀ k, (atL (toldL (mulZ (atL P) (atL R)) n) k).natAbs ≤ 30000 :=
  told_small fun i hi => Nat.le_trans (mulZ_small (n := n) (A := 50) (B := 50) (fun k _ => h.ps k) (fun k _ => h.rs k) hi) (by have := h.hn; omega)
theorem laid_prod_right (h : LaidP P R Q n) : rightPoly ((toldL (mulZ (atL P) (atL R)) n).map rawOf) = true :=
  toldL_right (by have := h.hn; omega) fun i hi => mild_bits (Nat.lt_of_le_of_lt (Nat.le_trans (mulZ_small (n := n) (A := 50) (B := 50) (fun k _ => h.ps k) (fun k _ => h.rs k) hi) (by have := h.hn; omega : n * (50 * 50) ≤ 30000)) (lt_mild (e := 15) (by decide) (by omega)))
theorem laid_mul (h : LaidP P R Q n) : toldL (mulZ (atL (toldL (compZ (atL P) (atL Q)) n)) (atL (toldL (compZ (atL R) (atL Q)) n))) n = toldL (compZ (atL (toldL (mulZ (atL P) (atL R)) n)) (atL Q)) n := by
  refine toldL_congr fun i hi => ?_
  rw [mulZ_congr (a' := compZ (atL P) (atL Q)) (b' := compZ (atL R) (atL Q)) (fun j hj => toldL_at _ (by omega)) (fun j hj => toldL_at _ (by omega)), ← compZ_mul h.h0]
  exact compZ_congr h.h0 i fun j hj => (toldL_at _ (by omega)).symm
theorem atL_x (i : Nat) : atL [0, 1] i = xZ i := by
  unfold xZ atL
  match i with
  | 0 => rfl
  | 1 => rfl
  | i + 2 => simp
theorem x_right : rightPoly ([0, 1].map rawOf) = true := rightPoly_raw (by decide) (fun x hx => by
  have h0 : x.natAbs ≤ 1 := by simp at hx; omega
  have h1 : lc x.natAbs ≤ 1 := lc_limb (by rw [W64_eq]; omega)
  unfold lc at h1
  omega) (.inr (by decide))
theorem x_small (k : Nat) : (atL [0, 1] k).natAbs ≤ 50 := Nat.le_trans (atL_small (l := [0, 1]) (M := 1) (by simp) k) (by omega)
theorem laid_x (h : LaidP P R Q n) : withinR ([0, 1].map rawOf) (Q.map rawOf) n = (cutR (Q.map rawOf) n, 0) := by
  rw [(laid_within (M := 50) (by omega) (by omega) h.hn x_right h.hq h.h0 x_small h.qs).2]
  rw [cut_told fun i hi => ?_]
  rw [compZ_congr h.h0 (a' := xZ) i (fun j _ => atL_x j), compZ_x h.h0]
theorem laid_p (h : LaidP P R Q n) : withinR (P.map rawOf) ([0, 1].map rawOf) n = (cutR (P.map rawOf) n, 0) := by
  rw [(laid_within (M := 50) (by omega) (by omega) h.hn h.hp x_right rfl h.ps x_small).2]
  rw [cut_told fun i hi => ?_]
  rw [compZ_congr_right (a := atL P) (q := atL [0, 1]) rfl (q' := xZ) rfl i (fun j _ => atL_x j), compZ_id]
end
end Go.Proofs.Ytmnfokapdipcdaa
