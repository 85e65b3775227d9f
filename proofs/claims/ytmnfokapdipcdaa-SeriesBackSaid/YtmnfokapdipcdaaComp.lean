import Derived.Test.YtmnfokapdipcdaaLaw2
/- Plain laws of power series: products, one series in the place of another's x, Lagrange's formula. -/
namespace Go.Proofs.Ytmnfokapdipcdaa
/-- All but the lowest. -/
def tailZ (a : Nat → Int) (m : Nat) : Int := a (m + 1)
/-- A number alone. -/
def constZ (c : Int) (m : Nat) : Int := if m = 0 then c else 0
/-- x. -/
def xZ (m : Nat) : Int := if m = 1 then 1 else 0
/-- Times x. -/
def shiftZ (a : Nat → Int) : Nat → Int
  | 0 => 0
  | m + 1 => a m
theorem convS_congr {a a' b b' : Nat → Int} {m : Nat} (ha : ∀ j, j ≤ m → a j = a' j) (hb : ∀ j, j ≤ m → b j = b' j) : ∀ i, convS a b i m = convS a' b' i m
  | 0 => rfl
  | i + 1 => by
    rw [convS_succ, convS_succ, convS_congr ha hb i]
    by_cases h : i ≤ m
    · rw [if_pos h, if_pos h, ha i h, hb (m - i) (by omega)]
    · rw [if_neg h, if_neg h]
theorem mulZ_congr {a a' b b' : Nat → Int} {m : Nat} (ha : ∀ j, j ≤ m → a j = a' j) (hb : ∀ j, j ≤ m → b j = b' j) : mulZ a b m = mulZ a' b' m := convS_congr ha hb _
theorem mulZ_zero_at (a b : Nat → Int) : mulZ a b 0 = a 0 * b 0 := by simp [mulZ, convS]
theorem convS_left (a b : Nat → Int) (m : Nat) : ∀ i, convS a b (i + 1) (m + 1) = a 0 * b (m + 1) + convS (tailZ a) b i m
  | 0 => by simp [convS]
  | i + 1 => by
    rw [convS_succ, convS_left a b m i, convS_succ]
    by_cases h : i ≤ m
    · rw [if_pos (by omega), if_pos h, show m + 1 - (i + 1) = m - i by omega]
      show _ + a (i + 1) * _ = _ + (_ + a (i + 1) * _)
      omega
    · rw [if_neg (by omega), if_neg h]; omega
/-- The head apart. -/
theorem mulZ_left (a b : Nat → Int) (m : Nat) : mulZ a b (m + 1) = a 0 * b (m + 1) + mulZ (tailZ a) b m := convS_left a b m (m + 1)
theorem convS_right (a b : Nat → Int) (m : Nat) : ∀ i, i ≤ m + 1 → convS a b i (m + 1) = convS a (tailZ b) i m
  | 0, _ => rfl
  | i + 1, h => by
    rw [convS_succ, convS_succ, convS_right a b m i (by omega), if_pos (by omega), if_pos (by omega)]
    show _ + a i * b (m + 1 - i) = _ + a i * b (m - i + 1)
    rw [show m + 1 - i = m - i + 1 by omega]
theorem mulZ_right (a b : Nat → Int) (m : Nat) : mulZ a b (m + 1) = mulZ a (tailZ b) m + a (m + 1) * b 0 := by
  show convS a b (m + 1 + 1) (m + 1) = _
  rw [convS_succ, convS_right a b m (m + 1) (Nat.le_refl _), if_pos (Nat.le_refl _), Nat.sub_self]
  rfl
theorem mulZ_comm (a b : Nat → Int) (m : Nat) : mulZ a b m = mulZ b a m := by
  induction m generalizing a b with
  | zero => rw [mulZ_zero_at, mulZ_zero_at, Int.mul_comm]
  | succ m ih => rw [mulZ_left, mulZ_right, ih, Int.mul_comm (a 0)]; omega
theorem convS_add (a a' b : Nat → Int) (m : Nat) : ∀ i, convS (fun n => a n + a' n) b i m = convS a b i m + convS a' b i m
  | 0 => by simp [convS]
  | i + 1 => by
    rw [convS_succ, convS_succ, convS_succ, convS_add a a' b m i]
    split
    · rw [Int.add_mul]; omega
    · omega
theorem mulZ_add (a a' b : Nat → Int) (m : Nat) : mulZ (fun n => a n + a' n) b m = mulZ a b m + mulZ a' b m := convS_add a a' b m _
theorem mulZ_add_right (a b b' : Nat → Int) (m : Nat) : mulZ a (fun n => b n + b' n) m = mulZ a b m + mulZ a b' m := by
  rw [mulZ_comm, mulZ_add, mulZ_comm b, mulZ_comm b']
theorem convS_scale (c : Int) (a b : Nat → Int) (m : Nat) : ∀ i, convS (fun n => c * a n) b i m = c * convS a b i m
  | 0 => by simp [convS]
  | i + 1 => by
    rw [convS_succ, convS_succ, convS_scale c a b m i, Int.mul_add]
    split
    · rw [Int.mul_assoc]
    · simp
theorem mulZ_scale (c : Int) (a b : Nat → Int) (m : Nat) : mulZ (fun n => c * a n) b m = c * mulZ a b m := convS_scale c a b m _
theorem mulZ_scale_right (c : Int) (a b : Nat → Int) (m : Nat) : mulZ a (fun n => c * b n) m = c * mulZ a b m := by rw [mulZ_comm, mulZ_scale, mulZ_comm]
theorem tail_mul (a b : Nat → Int) (m : Nat) : tailZ (mulZ a b) m = a 0 * tailZ b m + mulZ (tailZ a) b m := mulZ_left a b m
theorem mulZ_assoc (a b c : Nat → Int) (m : Nat) : mulZ (mulZ a b) c m = mulZ a (mulZ b c) m := by
  induction m generalizing a with
  | zero => rw [mulZ_zero_at, mulZ_zero_at, mulZ_zero_at, mulZ_zero_at, Int.mul_assoc]
  | succ m ih =>
    rw [mulZ_left, mulZ_left a, ← ih, mulZ_zero_at, mulZ_congr (fun j _ => tail_mul a b j) (fun j _ => rfl), mulZ_add, mulZ_scale, mulZ_left b, Int.mul_add, Int.mul_assoc]
    omega
theorem mulZ_const (c : Int) (b : Nat → Int) (m : Nat) : mulZ (constZ c) b m = c * b m := by
  cases m with
  | zero => rw [mulZ_zero_at]; rfl
  | succ m =>
    rw [mulZ_left]
    have h : mulZ (tailZ (constZ c)) b m = mulZ (fun n => 0 * b n) b m := mulZ_congr (fun j _ => by simp [tailZ, constZ]) (fun j _ => rfl)
    rw [h, mulZ_scale]
    simp [constZ]
theorem mulZ_one (b : Nat → Int) (m : Nat) : mulZ (constZ 1) b m = b m := by rw [mulZ_const, Int.one_mul]
theorem mulZ_x (b : Nat → Int) (m : Nat) : mulZ xZ b m = shiftZ b m := by
  cases m with
  | zero => rw [mulZ_zero_at]; simp [xZ, shiftZ]
  | succ m =>
    rw [mulZ_left, mulZ_congr (a' := constZ 1) (fun j _ => by simp only [tailZ, xZ, constZ]; by_cases h : j = 0 <;> simp [h]) (fun j _ => rfl), mulZ_one]
    simp [xZ, shiftZ]

/-! ### one in the place of the other's x -/
/-- a with q in the place of x, as far as place N. -/
def compN (a q : Nat → Int) : Nat → Nat → Int
  | 0, m => if m = 0 then a 0 else 0
  | N + 1, m => (if m = 0 then a 0 else 0) + mulZ q (compN (tailZ a) q N) m
/-- a with q, whose lowest is 0, in the place of x. -/
def compZ (a q : Nat → Int) (m : Nat) : Int := compN a q m m
theorem mulZ_low {q b b' : Nat → Int} (hq : q 0 = 0) {m : Nat} (h : ∀ j, j < m → b j = b' j) : mulZ q b m = mulZ q b' m := by
  cases m with
  | zero => rw [mulZ_zero_at, mulZ_zero_at, hq]; simp
  | succ m =>
    rw [mulZ_left, mulZ_left, hq, mulZ_congr (fun j _ => rfl) (fun j hj => h j (by omega))]; simp
theorem compN_more {q : Nat → Int} (hq : q 0 = 0) : ∀ (N : Nat) (a : Nat → Int) (m : Nat), m ≤ N → compN a q N m = compN a q (N + 1) m
  | 0, a, m, h => by
    obtain rfl : m = 0 := by omega
    simp [compN, mulZ_zero_at, hq]
  | N + 1, a, m, h => by
    show _ + mulZ q (compN (tailZ a) q N) m = _ + mulZ q (compN (tailZ a) q (N + 1)) m
    rw [mulZ_low hq (fun j hj => compN_more hq N (tailZ a) j (by omega))]
theorem compN_eq {q : Nat → Int} (hq : q 0 = 0) (a : Nat → Int) {N m : Nat} (h : m ≤ N) : compN a q N m = compZ a q m := by
  induction N with
  | zero => obtain rfl : m = 0 := by omega
            rfl
  | succ N ih =>
    by_cases hm : m = N + 1
    · subst hm; rfl
    · rw [← compN_more hq N a m (by omega)]; exact ih (by omega)
/-- The head apart. -/
theorem compZ_step {q : Nat → Int} (hq : q 0 = 0) (a : Nat → Int) (m : Nat) : compZ a q m = constZ (a 0) m + mulZ q (compZ (tailZ a) q) m := by
  rw [← compN_eq hq a (Nat.le_succ m)]
  show _ + mulZ q (compN (tailZ a) q m) m = _
  rw [mulZ_low hq (fun j hj => compN_eq hq (tailZ a) (show j ≤ m by omega))]
  rfl
theorem compZ_congr {q : Nat → Int} (hq : q 0 = 0) {a a' : Nat → Int} : ∀ m, (∀ j, j ≤ m → a j = a' j) → compZ a q m = compZ a' q m := by
  intro m
  induction m using Nat.strongRecOn generalizing a a' with
  | _ m ih =>
    intro h
    rw [compZ_step hq, compZ_step hq, h 0 (by omega), mulZ_low hq (fun j hj => ih j hj (a := tailZ a) (a' := tailZ a') (fun i hi => h (i + 1) (by omega)))]
theorem compZ_add {q : Nat → Int} (hq : q 0 = 0) (m : Nat) : ∀ a a' : Nat → Int, compZ (fun n => a n + a' n) q m = compZ a q m + compZ a' q m := by
  induction m using Nat.strongRecOn with
  | _ m ih =>
    intro a a'
    rw [compZ_step hq, compZ_step hq a, compZ_step hq a']
    rw [mulZ_low hq (b := compZ (tailZ fun n => a n + a' n) q) (b' := fun j => compZ (tailZ a) q j + compZ (tailZ a') q j) (fun j hj => ih j hj (tailZ a) (tailZ a')), mulZ_add_right]
    simp only [constZ]
    split <;> omega
theorem compZ_scale {q : Nat → Int} (hq : q 0 = 0) (c : Int) (m : Nat) : ∀ a : Nat → Int, compZ (fun n => c * a n) q m = c * compZ a q m := by
  induction m using Nat.strongRecOn with
  | _ m ih =>
    intro a
    rw [compZ_step hq, compZ_step hq a]
    rw [mulZ_low hq (b := compZ (tailZ fun n => c * a n) q) (b' := fun j => c * compZ (tailZ a) q j) (fun j hj => ih j hj (tailZ a)), mulZ_scale_right, Int.mul_add]
    simp only [constZ]
    split <;> simp
/-- A product with q in the place of x is the product of both with it. -/
theorem compZ_mul {q : Nat → Int} (hq : q 0 = 0) (m : Nat) : ∀ a b : Nat → Int, compZ (mulZ a b) q m = mulZ (compZ a q) (compZ b q) m := by
  induction m using Nat.strongRecOn with
  | _ m ih =>
    intro a b
    have h1 : mulZ (compZ a q) (compZ b q) m = a 0 * compZ b q m + mulZ q (mulZ (compZ (tailZ a) q) (compZ b q)) m := by
      rw [mulZ_congr (a' := fun j => constZ (a 0) j + mulZ q (compZ (tailZ a) q) j) (fun j _ => compZ_step hq a j) (fun j _ => rfl), mulZ_add, mulZ_const, mulZ_assoc]
    rw [h1, compZ_step hq, compZ_step hq b]
    rw [mulZ_low hq (b' := fun j => a 0 * compZ (tailZ b) q j + mulZ (compZ (tailZ a) q) (compZ b q) j) (fun j hj => by
      rw [compZ_congr hq (a' := fun n => a 0 * tailZ b n + mulZ (tailZ a) b n) j (fun i _ => tail_mul a b i), compZ_add hq, compZ_scale hq, ih j hj])]
    rw [mulZ_add_right, mulZ_scale_right, mulZ_zero_at, Int.mul_add]
    simp only [constZ]
    split <;> omega
theorem compZ_zero_at {q : Nat → Int} (hq : q 0 = 0) (a : Nat → Int) : compZ a q 0 = a 0 := by
  rw [compZ_step hq, mulZ_zero_at, hq]; simp [constZ]
theorem compZ_const {q : Nat → Int} (hq : q 0 = 0) (c : Int) (m : Nat) : compZ (constZ c) q m = constZ c m := by
  rw [compZ_step hq]
  have h : ∀ j, compZ (tailZ (constZ c)) q j = 0 := by
    intro j
    rw [compZ_congr hq (a' := fun n => 0 * xZ n) j (fun i _ => by simp [tailZ, constZ]), compZ_scale hq]; simp
  rw [mulZ_congr (b' := fun n => 0 * xZ n) (fun j _ => rfl) (fun j _ => by rw [h j]; simp), mulZ_scale_right]
  simp [constZ]
/-- x with q in its place is q. -/
theorem compZ_x {q : Nat → Int} (hq : q 0 = 0) (m : Nat) : compZ xZ q m = q m := by
  rw [compZ_step hq, mulZ_congr (b' := constZ 1) (fun j _ => rfl) (fun j _ => by
    rw [compZ_congr hq (a' := constZ 1) j (fun i _ => by simp only [tailZ, xZ, constZ]; by_cases h : i = 0 <;> simp [h]), compZ_const hq]), mulZ_comm, mulZ_one]
  simp [constZ, xZ]
/-- One behind the other, in either grouping. -/
theorem compZ_assoc {p q : Nat → Int} (hp : p 0 = 0) (hq : q 0 = 0) (m : Nat) : ∀ a : Nat → Int, compZ (compZ a p) q m = compZ a (compZ p q) m := by
  have hpq : compZ p q 0 = 0 := by rw [compZ_zero_at hq, hp]
  induction m using Nat.strongRecOn with
  | _ m ih =>
    intro a
    rw [compZ_congr hq (a' := fun n => constZ (a 0) n + mulZ p (compZ (tailZ a) p) n) m (fun i _ => compZ_step hp a i), compZ_add hq, compZ_const hq, compZ_mul hq, compZ_step hpq, mulZ_low hpq (fun j hj => ih j hj (tailZ a))]
/-- p with x in the place of x is p. -/
theorem compZ_id (m : Nat) : ∀ a : Nat → Int, compZ a xZ m = a m := by
  have hx : xZ 0 = 0 := rfl
  induction m using Nat.strongRecOn with
  | _ m ih =>
    intro a
    rw [compZ_step hx, mulZ_low hx (fun j hj => ih j hj (tailZ a)), mulZ_x]
    cases m with
    | zero => simp [constZ, shiftZ]
    | succ m => simp [constZ, shiftZ, tailZ]

/-! ### Lagrange's formula -/
/-- Each number times its place. -/
def eulZ (a : Nat → Int) (m : Nat) : Int := (m : Int) * a m
theorem eulZ_conv (a b : Nat → Int) (m : Nat) : ∀ i, (m : Int) * convS a b i m = convS (eulZ a) b i m + convS a (eulZ b) i m
  | 0 => by simp [convS]
  | i + 1 => by
    rw [convS_succ, convS_succ, convS_succ, Int.mul_add, eulZ_conv a b m i]
    by_cases h : i ≤ m
    · rw [if_pos h, if_pos h, if_pos h]
      unfold eulZ
      have e : (m : Int) = (i : Int) + ((m - i : Nat) : Int) := by omega
      have h1 : (m : Int) * (a i * b (m - i)) = (i : Int) * a i * b (m - i) + a i * (((m - i : Nat) : Int) * b (m - i)) := by
        conv => lhs; rw [e]
        rw [Int.add_mul, Int.mul_assoc, Int.mul_left_comm (a i)]
      omega
    · rw [if_neg h, if_neg h, if_neg h]; omega
theorem eulZ_mul (a b : Nat → Int) (m : Nat) : eulZ (mulZ a b) m = mulZ (eulZ a) b m + mulZ a (eulZ b) m := eulZ_conv a b m _
/-- Powers. -/
def pwZ (a : Nat → Int) : Nat → Nat → Int
  | 0 => constZ 1
  | k + 1 => mulZ (pwZ a k) a
theorem pwZ_eul (a : Nat → Int) (k m : Nat) : eulZ (pwZ a (k + 1)) m = (k + 1 : Int) * mulZ (pwZ a k) (eulZ a) m := by
  induction k generalizing m with
  | zero =>
    show (m : Int) * mulZ (constZ 1) a m = _
    rw [mulZ_one]
    show _ = (0 + 1 : Int) * mulZ (constZ 1) (eulZ a) m
    rw [mulZ_one]; simp [eulZ]
  | succ k ih =>
    show eulZ (mulZ (pwZ a (k + 1)) a) m = _
    rw [eulZ_mul, mulZ_congr (a := eulZ (pwZ a (k + 1))) (a' := fun n => (k + 1 : Int) * mulZ (pwZ a k) (eulZ a) n) (fun j _ => ih j) (fun j _ => rfl), mulZ_scale, mulZ_assoc,
      mulZ_congr (b := mulZ (eulZ a) a) (b' := mulZ a (eulZ a)) (fun j _ => rfl) (fun j _ => mulZ_comm _ _ j), ← mulZ_assoc]
    show (k + 1 : Int) * mulZ (pwZ a (k + 1)) (eulZ a) m + mulZ (pwZ a (k + 1)) (eulZ a) m = _
    rw [show ((k + 1 : Nat) : Int) + 1 = (k + 1 : Int) + 1 by omega, Int.add_mul ((k : Int) + 1)]
    omega
/-- The first n shifted by k. -/
def shiftN (k : Nat) (a : Nat → Int) (m : Nat) : Int := if m < k then 0 else a (m - k)
theorem shiftN_succ (k : Nat) (a : Nat → Int) (m : Nat) : mulZ xZ (shiftN k a) m = shiftN (k + 1) a m := by
  rw [mulZ_x]
  cases m with
  | zero => simp [shiftZ, shiftN]
  | succ m =>
    show shiftN k a m = _
    unfold shiftN
    by_cases h : m < k
    · rw [if_pos h, if_pos (by omega)]
    · rw [if_neg h, if_neg (by omega), show m + 1 - (k + 1) = m - k by omega]
/-- Where p times f is x: p to the power k times f to the power k + j is x to the power k times f to the power j. -/
theorem pw_cancel {p f : Nat → Int} (h : ∀ m, mulZ p f m = xZ m) (k j m : Nat) : mulZ (pwZ p k) (pwZ f (j + k)) m = shiftN k (pwZ f j) m := by
  induction k generalizing m with
  | zero =>
    show mulZ (constZ 1) (pwZ f j) m = _
    rw [mulZ_one]; simp [shiftN]
  | succ k ih =>
    show mulZ (mulZ (pwZ p k) p) (mulZ (pwZ f (j + k)) f) m = _
    have e : mulZ (mulZ (pwZ p k) p) (mulZ (pwZ f (j + k)) f) m = mulZ (mulZ p f) (mulZ (pwZ p k) (pwZ f (j + k))) m := by
      rw [mulZ_assoc, mulZ_congr (b := mulZ p (mulZ (pwZ f (j + k)) f)) (b' := mulZ (mulZ p f) (pwZ f (j + k))) (fun i _ => rfl) (fun i _ => by
        rw [mulZ_assoc, mulZ_congr (b := mulZ (pwZ f (j + k)) f) (b' := mulZ f (pwZ f (j + k))) (fun _ _ => rfl) (fun i _ => mulZ_comm _ _ i)]),
        ← mulZ_assoc, mulZ_congr (a := mulZ (pwZ p k) (mulZ p f)) (a' := mulZ (mulZ p f) (pwZ p k)) (fun i _ => mulZ_comm _ _ i) (fun _ _ => rfl), mulZ_assoc]
    rw [e, mulZ_congr (a' := xZ) (b' := shiftN k (pwZ f j)) (fun i _ => h i) (fun i _ => ih i), shiftN_succ]
/-- The derivative. -/
def derZ (a : Nat → Int) (m : Nat) : Int := ((m : Int) + 1) * a (m + 1)
theorem derZ_tail (a : Nat → Int) (m : Nat) : derZ a m = tailZ a m + mulZ xZ (derZ (tailZ a)) m := by
  rw [mulZ_x]
  cases m with
  | zero => simp [derZ, tailZ, shiftZ]
  | succ m =>
    simp only [derZ, tailZ, shiftZ]
    rw [show ((m + 1 : Nat) : Int) + 1 = (m : Int) + 1 + 1 by omega, Int.add_mul ((m : Int) + 1)]
    omega
theorem eulZ_low (a : Nat → Int) : eulZ a 0 = 0 := by simp [eulZ]
/-- The chain rule. -/
theorem eulZ_comp {p : Nat → Int} (hp : p 0 = 0) (m : Nat) : ∀ q : Nat → Int, eulZ (compZ q p) m = mulZ (compZ (derZ q) p) (eulZ p) m := by
  induction m using Nat.strongRecOn with
  | _ m ih =>
    intro q
    have h1 : eulZ (compZ q p) m = eulZ (mulZ p (compZ (tailZ q) p)) m := by
      unfold eulZ
      rw [compZ_step hp]
      by_cases h0 : m = 0
      · subst h0; simp
      · simp [constZ, h0]
    have h2 : mulZ (compZ (derZ q) p) (eulZ p) m = mulZ (compZ (tailZ q) p) (eulZ p) m + mulZ (mulZ p (compZ (derZ (tailZ q)) p)) (eulZ p) m := by
      rw [mulZ_congr (a' := fun j => compZ (tailZ q) p j + mulZ p (compZ (derZ (tailZ q)) p) j) (fun j _ => by
        rw [compZ_congr hp (a' := fun n => tailZ q n + mulZ xZ (derZ (tailZ q)) n) j (fun i _ => derZ_tail q i), compZ_add hp, compZ_mul hp]
        congr 1
        exact mulZ_congr (fun i _ => compZ_x hp i) (fun _ _ => rfl)) (fun _ _ => rfl), mulZ_add]
    rw [h1, eulZ_mul, h2, mulZ_comm (eulZ p), mulZ_low hp (b := eulZ (compZ (tailZ q) p)) (fun j hj => ih j hj (tailZ q)), mulZ_assoc]
/-- The coefficient that tells. -/
theorem tell_one {p f : Nat → Int} (hp : p 0 = 0) (h : ∀ m, mulZ p f m = xZ m) (n : Nat) : mulZ (eulZ p) (pwZ f (n + 1)) (n + 1) = if n = 0 then 1 else 0 := by
  have hxe : ∀ m, mulZ (eulZ p) f m = xZ m - mulZ p (eulZ f) m := by
    intro m
    have h1 := eulZ_mul p f m
    have h2 : eulZ (mulZ p f) m = xZ m := by
      unfold eulZ
      rw [h m]
      unfold xZ
      by_cases hm : m = 1
      · subst hm; simp
      · simp [hm]
    omega
  have h3 : mulZ (eulZ p) (pwZ f (n + 1)) (n + 1) = pwZ f n n - mulZ (mulZ p (pwZ f n)) (eulZ f) (n + 1) := by
    show mulZ (eulZ p) (mulZ (pwZ f n) f) (n + 1) = _
    rw [mulZ_congr (b := mulZ (pwZ f n) f) (b' := mulZ f (pwZ f n)) (fun _ _ => rfl) (fun i _ => mulZ_comm _ _ i), ← mulZ_assoc,
      mulZ_congr (a' := fun m => xZ m + -1 * mulZ p (eulZ f) m) (fun j _ => by rw [hxe j]; omega) (fun _ _ => rfl), mulZ_add, mulZ_scale, mulZ_x]
    show pwZ f n n + _ = _
    rw [mulZ_assoc, mulZ_congr (b := mulZ (eulZ f) (pwZ f n)) (b' := mulZ (pwZ f n) (eulZ f)) (fun _ _ => rfl) (fun i _ => mulZ_comm _ _ i), ← mulZ_assoc]
    omega
  rw [h3]
  cases n with
  | zero =>
    have h4 : mulZ (mulZ p (pwZ f 0)) (eulZ f) 1 = 0 := by
      rw [mulZ_right, mulZ_zero_at, mulZ_zero_at, eulZ_low, hp]; simp
    rw [show (0 : Nat) + 1 = 1 from rfl, h4]
    simp [pwZ, constZ]
  | succ k =>
    have h5 : ∀ m, mulZ p (pwZ f (k + 1)) m = shiftN 1 (pwZ f k) m := by
      intro m
      have h6 := pw_cancel h 1 k m
      rw [← h6]
      exact mulZ_congr (fun j _ => (mulZ_one p j).symm) (fun _ _ => rfl)
    have h7 : ∀ m, shiftN 1 (pwZ f k) m = mulZ xZ (pwZ f k) m := by
      intro m
      rw [mulZ_x]
      cases m with
      | zero => rfl
      | succ m => simp [shiftN, shiftZ]
    rw [mulZ_congr (a' := mulZ xZ (pwZ f k)) (fun j _ => (h5 j).trans (h7 j)) (fun _ _ => rfl), mulZ_assoc, mulZ_x]
    show pwZ f (k + 1) (k + 1) - mulZ (pwZ f k) (eulZ f) (k + 1) = _
    have h8 := pwZ_eul f k (k + 1)
    unfold eulZ at h8
    have h9 : ((k : Int) + 1) * (pwZ f (k + 1) (k + 1) - mulZ (pwZ f k) (eulZ f) (k + 1)) = 0 := by
      rw [Int.mul_sub]
      have e : ((k + 1 : Nat) : Int) = (k : Int) + 1 := by omega
      rw [e] at h8
      exact Int.sub_eq_zero.2 h8
    rcases Int.mul_eq_zero.1 h9 with h10 | h10
    · omega
    · rw [h10]; simp
theorem tell_all {p f : Nat → Int} (hp : p 0 = 0) (h : ∀ m, mulZ p f m = xZ m) (n : Nat) : ∀ g : Nat → Int, mulZ (mulZ (compZ g p) (eulZ p)) (pwZ f (n + 1)) (n + 1) = g n := by
  induction n with
  | zero =>
    intro g
    have e : mulZ (mulZ (compZ g p) (eulZ p)) (pwZ f 1) 1 = g 0 * mulZ (eulZ p) (pwZ f 1) 1 + mulZ p (mulZ (mulZ (compZ (tailZ g) p) (eulZ p)) (pwZ f 1)) 1 := by
      rw [mulZ_assoc, mulZ_congr (a' := fun j => constZ (g 0) j + mulZ p (compZ (tailZ g) p) j) (fun j _ => compZ_step hp g j) (fun _ _ => rfl), mulZ_add, mulZ_const, mulZ_assoc]
      congr 1
      exact mulZ_congr (fun _ _ => rfl) (fun i _ => (mulZ_assoc _ _ _ i).symm)
    have h0 : mulZ p (mulZ (mulZ (compZ (tailZ g) p) (eulZ p)) (pwZ f 1)) 1 = 0 := by
      rw [mulZ_left, mulZ_zero_at, mulZ_zero_at, mulZ_zero_at, eulZ_low, hp]; simp
    show mulZ (mulZ (compZ g p) (eulZ p)) (pwZ f 1) 1 = g 0
    rw [e, h0, tell_one hp h 0]; simp
  | succ n ih =>
    intro g
    have e : mulZ (mulZ (compZ g p) (eulZ p)) (pwZ f (n + 2)) (n + 2) = g 0 * mulZ (eulZ p) (pwZ f (n + 2)) (n + 2) + mulZ (mulZ (compZ (tailZ g) p) (eulZ p)) (mulZ p (pwZ f (n + 2))) (n + 2) := by
      rw [mulZ_assoc, mulZ_congr (a' := fun j => constZ (g 0) j + mulZ p (compZ (tailZ g) p) j) (fun j _ => compZ_step hp g j) (fun _ _ => rfl), mulZ_add, mulZ_const]
      congr 1
      rw [mulZ_congr (a := mulZ p (compZ (tailZ g) p)) (a' := mulZ (compZ (tailZ g) p) p) (fun i _ => mulZ_comm _ _ i) (fun _ _ => rfl), mulZ_assoc, mulZ_assoc]
      refine mulZ_congr (fun _ _ => rfl) (fun i _ => ?_)
      rw [← mulZ_assoc, mulZ_congr (a := mulZ p (eulZ p)) (a' := mulZ (eulZ p) p) (fun i _ => mulZ_comm _ _ i) (fun _ _ => rfl), mulZ_assoc]
    have h5 : ∀ m, mulZ p (pwZ f (n + 2)) m = mulZ xZ (pwZ f (n + 1)) m := by
      intro m
      have h6 := pw_cancel h 1 (n + 1) m
      rw [mulZ_congr (a := p) (a' := pwZ p 1) (fun j _ => (mulZ_one p j).symm) (fun _ _ => rfl), h6, mulZ_x]
      cases m with
      | zero => rfl
      | succ m => simp [shiftN, shiftZ]
    show mulZ (mulZ (compZ g p) (eulZ p)) (pwZ f (n + 2)) (n + 2) = g (n + 1)
    rw [e, tell_one hp h (n + 1), mulZ_congr (b := mulZ p (pwZ f (n + 2))) (b' := mulZ xZ (pwZ f (n + 1))) (fun _ _ => rfl) (fun i _ => h5 i), mulZ_comm, mulZ_assoc, mulZ_x]
    show _ + mulZ (pwZ f (n + 1)) (mulZ (compZ (tailZ g) p) (eulZ p)) (n + 1) = _
    rw [mulZ_comm, ih (tailZ g)]
    simp [tailZ]
/-- LAGRANGE: where q with p in the place of x is x, and p times f is x, n times q's number n is the number n - 1 of f to the power n. -/
theorem lagrange {p f q : Nat → Int} (hp : p 0 = 0) (h : ∀ m, mulZ p f m = xZ m) (hq : ∀ m, compZ q p m = xZ m) (n : Nat) : ((n : Int) + 1) * q (n + 1) = pwZ f (n + 1) n := by
  have h1 := tell_all hp h n (derZ q)
  have h2 : mulZ (mulZ (compZ (derZ q) p) (eulZ p)) (pwZ f (n + 1)) (n + 1) = pwZ f (n + 1) n := by
    rw [mulZ_congr (a' := xZ) (fun j _ => by
      rw [← eulZ_comp hp]
      unfold eulZ
      rw [hq j]
      unfold xZ
      by_cases hj : j = 1
      · subst hj; simp
      · simp [hj]) (fun _ _ => rfl), mulZ_x]
    rfl
  rw [h2] at h1
  exact h1.symm
end Go.Proofs.Ytmnfokapdipcdaa
