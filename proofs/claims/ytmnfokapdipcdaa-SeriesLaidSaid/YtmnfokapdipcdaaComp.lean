import Derived.Test.YtmnfokapdipcdaaLaw2
/- Plain laws of power series: products, one series in the place of another's x, Lagrange's formula. -/
namespace Go.Proofs.Ytmnfokapdipcdaa
/-- All but the lowest. -/
def tailZ (a : Nat → Int) (m : Nat) : Int := a (m + 1)
/-- A number alone. -/
def constZ (c : Int) (m : Nat) : Int := if m = 0 then c else 0
/-- x. -/
def xZ (m : Nat) : Int := if m = 1 then 1 else 0
/-- Times x. -/
def shiftZ (a : Nat → Int) : Nat → Int
  | 0 => 0
  | m + 1 => a m
theorem convS_congr {a a' b b' : Nat → Int} {m : Nat} (ha : ∀ j, j ≤ m → a j = a' j) (hb : ∀ j, j ≤ m → b j = b' j) : ∀ i, convS a b i m = convS a' b' i m
  | 0 => rfl
  | i + 1 => by
    rw [convS_succ, convS_succ, convS_congr ha hb i]
    by_cases h : i ≤ m
    · rw [if_pos h, if_pos h, ha i h, hb (m - i) (by omega)]
    · rw [if_neg h, if_neg h]
theorem mulZ_congr {a a' b b' : Nat → Int} {m : Nat} (ha : ∀ j, j ≤ m → a j = a' j) (hb : ∀ j, j ≤ m → b j = b' j) : mulZ a b m = mulZ a' b' m := convS_congr ha hb _
theorem mulZ_zero_at (a b : Nat → Int) : mulZ a b 0 = a 0 * b 0 := by simp [mulZ, convS]
theorem convS_left (a b : Nat → Int) (m : Nat) : ∀ i, convS a b (i + 1) (m + 1) = a 0 * b (m + 1) + convS (tailZ a) b i m
  | 0 => by simp [convS]
  | i + 1 => by
    rw [convS_succ, convS_left a b m i, convS_succ]
    by_cases h : i ≤ m
    · rw [if_pos (by omega), if_pos h, show m + 1 - (i + 1) = m - i by omega]
      show _ + a (i + 1) * _ = _ + (_ + a (i + 1) * _)
      omega
    · rw [if_neg (by omega), if_neg h]; omega
/-- The head apart. -/
theorem mulZ_left (a b : Nat → Int) (m : Nat) : mulZ a b (m + 1) = a 0 * b (m + 1) + mulZ (tailZ a) b m := convS_left a b m (m + 1)
theorem convS_right (a b : Nat → Int) (m : Nat) : ∀ i, i ≤ m + 1 → convS a b i (m + 1) = convS a (tailZ b) i m
  | 0, _ => rfl
  | i + 1, h => by
    rw [convS_succ, convS_succ, convS_right a b m i (by omega), if_pos (by omega), if_pos (by omega)]
    show _ + a i * b (m + 1 - i) = _ + a i * b (m - i + 1)
    rw [show m + 1 - i = m - i + 1 by omega]
theorem mulZ_right (a b : Nat → Int) (m : Nat) : mulZ a b (m + 1) = mulZ a (tailZ b) m + a (m + 1) * b 0 := by
  show convS a b (m + 1 + 1) (m + 1) = _
  rw [convS_succ, convS_right a b m (m + 1) (Nat.le_refl _), if_pos (Nat.le_refl _), Nat.sub_self]
  rfl
theorem mulZ_comm (a b : Nat → Int) (m : Nat) : mulZ a b m = mulZ b a m := by
  induction m generalizing a b with
  | zero => rw [mulZ_zero_at, mulZ_zero_at, Int.mul_comm]
  | succ m ih => rw [mulZ_left, mulZ_right, ih, Int.mul_comm (a 0)]; omega
theorem convS_add (a a' b : Nat → Int) (m : Nat) : ∀ i, convS (fun n => a n + a' n) b i m = convS a b i m + convS a' b i m
  | 0 => by simp [convS]
  | i + 1 => by
    rw [convS_succ, convS_succ, convS_succ, convS_add a a' b m i]
    split
    · rw [Int.add_mul]; omega
    · omega
theorem mulZ_add (a a' b : Nat → Int) (m : Nat) : mulZ (fun n => a n + a' n) b m = mulZ a b m + mulZ a' b m := convS_add a a' b m _
theorem mulZ_add_right (a b b' : Nat → Int) (m : Nat) : mulZ a (fun n => b n + b' n) m = mulZ a b m + mulZ a b' m := by
  rw [mulZ_comm, mulZ_add, mulZ_comm b, mulZ_comm b']
theorem convS_scale (c : Int) (a b : Nat → Int) (m : Nat) : ∀ i, convS (fun n => c * a n) b i m = c * convS a b i m
  | 0 => by simp [convS]
  | i + 1 => by
    rw [convS_succ, convS_succ, convS_scale c a b m i, Int.mul_add]
    split
    · rw [Int.mul_assoc]
    · simp
theorem mulZ_scale (c : Int) (a b : Nat → Int) (m : Nat) : mulZ (fun n => c * a n) b m = c * mulZ a b m := convS_scale c a b m _
theorem mulZ_scale_right (c : Int) (a b : Nat → Int) (m : Nat) : mulZ a (fun n => c * b n) m = c * mulZ a b m := by rw [mulZ_comm, mulZ_scale, mulZ_comm]
theorem tail_mul (a b : Nat → Int) (m : Nat) : tailZ (mulZ a b) m = a 0 * tailZ b m + mulZ (tailZ a) b m := mulZ_left a b m
theorem mulZ_assoc (a b c : Nat → Int) (m : Nat) : mulZ (mulZ a b) c m = mulZ a (mulZ b c) m := by
  induction m generalizing a with
  | zero => rw [mulZ_zero_at, mulZ_zero_at, mulZ_zero_at, mulZ_zero_at, Int.mul_assoc]
  | succ m ih =>
    rw [mulZ_left, mulZ_left a, ← ih, mulZ_zero_at, mulZ_congr (fun j _ => tail_mul a b j) (fun j _ => rfl), mulZ_add, mulZ_scale, mulZ_left b, Int.mul_add, Int.mul_assoc]
    omega
theorem mulZ_const (c : Int) (b : Nat → Int) (m : Nat) : mulZ (constZ c) b m = c * b m := by
  cases m with
  | zero => rw [mulZ_zero_at]; rfl
  | succ m =>
    rw [mulZ_left]
    have h : mulZ (tailZ (constZ c)) b m = mulZ (fun n => 0 * b n) b m := mulZ_congr (fun j _ => by simp [tailZ, constZ]) (fun j _ => rfl)
    rw [h, mulZ_scale]
    simp [constZ]
theorem mulZ_one (b : Nat → Int) (m : Nat) : mulZ (constZ 1) b m = b m := by rw [mulZ_const, Int.one_mul]
theorem mulZ_x (b : Nat → Int) (m : Nat) : mulZ xZ b m = shiftZ b m := by
  cases m with
  | zero => rw [mulZ_zero_at]; simp [xZ, shiftZ]
  | succ m =>
    rw [mulZ_left, mulZ_congr (a' := constZ 1) (fun j _ => by simp only [tailZ, xZ, constZ]; by_cases h : j = 0 <;> simp [h]) (fun j _ => rfl), mulZ_one]
    simp [xZ, shiftZ]

/-! ### one in the place of the other's x -/
/-- a with q in the place of x, as far as place N. -/
def compN (a q : Nat → Int) : Nat → Nat → Int
  | 0, m => if m = 0 then a 0 else 0
  | N + 1, m => (if m = 0 then a 0 else 0) + mulZ q (compN (tailZ a) q N) m
/-- a with q, whose lowest is 0, in the place of x. -/
def compZ (a q : Nat → Int) (m : Nat) : Int := compN a q m m
theorem mulZ_low {q b b' : Nat → Int} (hq : q 0 = 0) {m : Nat} (h : ∀ j, j < m → b j = b' j) : mulZ q b m = mulZ q b' m := by
  cases m with
  | zero => rw [mulZ_zero_at, mulZ_zero_at, hq]; simp
  | succ m =>
    rw [mulZ_left, mulZ_left, hq, mulZ_congr (fun j _ => rfl) (fun j hj => h j (by omega))]; simp
theorem compN_more {q : Nat → Int} (hq : q 0 = 0) : ∀ (N : Nat) (a : Nat → Int) (m : Nat), m ≤ N → compN a q N m = compN a q (N + 1) m
  | 0, a, m, h => by
    obtain rfl : m = 0 := by omega
    simp [compN, mulZ_zero_at, hq]
  | N + 1, a, m, h => by
    show _ + mulZ q (compN (tailZ a) q N) m = _ + mulZ q (compN (tailZ a) q (N + 1)) m
    rw [mulZ_low hq (fun j hj => compN_more hq N (tailZ a) j (by omega))]
theorem compN_eq {q : Nat → Int} (hq : q 0 = 0) (a : Nat → Int) {N m : Nat} (h : m ≤ N) : compN a q N m = compZ a q m := by
  induction N with
  | zero => obtain rfl : m = 0 := by omega
            rfl
  | succ N ih =>
    by_cases hm : m = N + 1
    · subst hm; rfl
    · rw [← compN_more hq N a m (by omega)]; exact ih (by omega)
/-- The head apart. -/
theorem compZ_step {q : Nat → Int} (hq : q 0 = 0) (a : Nat → Int) (m : Nat) : compZ a q m = constZ (a 0) m + mulZ q (compZ (tailZ a) q) m := by
  rw [← compN_eq hq a (Nat.le_succ m)]
  show _ + mulZ q (compN (tailZ a) q m) m = _
  rw [mulZ_low hq (fun j hj => compN_eq hq (tailZ a) (show j ≤ m by omega))]
  rfl
theorem compZ_congr {q : Nat → Int} (hq : q 0 = 0) {a a' : Nat → Int} : ∀ m, (∀ j, j ≤ m → a j = a' j) → compZ a q m = compZ a' q m := by
  intro m
  induction m using Nat.strongRecOn generalizing a a' with
  | _ m ih =>
    intro h
    rw [compZ_step hq, compZ_step hq, h 0 (by omega), mulZ_low hq (fun j hj => ih j hj (a := tailZ a) (a' := tailZ a') (fun i hi => h (i + 1) (by omega)))]
theorem compZ_add {q : Nat → Int} (hq : q 0 = 0) (m : Nat) : ∀ a a' : Nat → Int, compZ (fun n => a n + a' n) q m = compZ a q m + compZ a' q m := by
  induction m using Nat.strongRecOn with
  | _ m ih =>
    intro a a'
    rw [compZ_step hq, compZ_step hq a, compZ_step hq a']
    rw [mulZ_low hq (b := compZ (tailZ fun n => a n + a' n) q) (b' := fun j => compZ (tailZ a) q j + compZ (tailZ a') q j) (fun j hj => ih j hj (tailZ a) (tailZ a')), mulZ_add_right]
    simp only [constZ]
    split <;> omega
theorem compZ_scale {q : Nat → Int} (hq : q 0 = 0) (c : Int) (m : Nat) : ∀ a : Nat → Int, compZ (fun n => c * a n) q m = c * compZ a q m := by
  induction m using Nat.strongRecOn with
  | _ m ih =>
    intro a
    rw [compZ_step hq, compZ_step hq a]
    rw [mulZ_low hq (b := compZ (tailZ fun n => c * a n) q) (b' := fun j => c * compZ (tailZ a) q j) (fun j hj => ih j hj (tailZ a)), mulZ_scale_right, Int.mul_add]
    simp only [constZ]
    split <;> simp
/-- A product with q in the place of x is the product of both with it. -/
theorem compZ_mul {q : Nat → Int} (hq : q 0 = 0) (m : Nat) : ∀ a b : Nat → Int, compZ (mulZ a b) q m = mulZ (compZ a q) (compZ b q) m := by
  induction m using Nat.strongRecOn with
  | _ m ih =>
    intro a b
    have h1 : mulZ (compZ a q) (compZ b q) m = a 0 * compZ b q m + mulZ q (mulZ (compZ (tailZ a) q) (compZ b q)) m := by
      rw [mulZ_congr (a' := fun j => constZ (a 0) j + mulZ q (compZ (tailZ a) q) j) (fun j _ => compZ_step hq a j) (fun j _ => rfl), mulZ_add, mulZ_const, mulZ_assoc]
    rw [h1, compZ_step hq, compZ_step hq b]
    rw [mulZ_low hq (b' := fun j => a 0 * compZ (tailZ b) q j + mulZ (compZ (tailZ a) q) (compZ b q) j) (fun j hj => by
      rw [compZ_congr hq (a' := fun n => a 0 * tailZ b n + mulZ (tailZ a) b n) j (fun i _ => tail_mul a b i), compZ_add hq, compZ_scale hq, ih j hj])]
    rw [mulZ_add_right, mulZ_scale_right, mulZ_zero_at, Int.mul_add]
    simp only [constZ]
    split <;> omega
theorem compZ_zero_at {q : Nat → Int} (hq : q 0 = 0) (a : Nat → Int) : compZ a q 0 = a 0 := by
  rw [compZ_step hq, mulZ_zero_at, hq]; simp [constZ]
theorem compZ_const {q : Nat → Int} (hq : q 0 = 0) (c : Int) (m : Nat) : compZ (constZ c) q m = constZ c m := by
  rw [compZ_step hq]
  have h : ∀ j, compZ (tailZ (constZ c)) q j = 0 := by
    intro j
    rw [compZ_congr hq (a' := fun n => 0 * xZ n) j (fun i _ => by simp [tailZ, constZ]), compZ_scale hq]; simp
  rw [mulZ_congr (b' := fun n => 0 * xZ n) (fun j _ => rfl) (fun j _ => by rw [h j]; simp), mulZ_scale_right]
  simp [constZ]
/-- x with q in its place is q. -/
theorem compZ_x {q : Nat → Int} (hq : q 0 = 0) (m : Nat) : compZ xZ q m = q m := by
  rw [compZ_step hq, mulZ_congr (b' := constZ 1) (fun j _ => rfl) (fun j _ => by
    rw [compZ_congr hq (a' := constZ 1) j (fun i _ => by simp only [tailZ, xZ, constZ]; by_cases h : i = 0 <;> simp [h]), compZ_const hq]), mulZ_comm, mulZ_one]
  simp [constZ, xZ]
/-- One behind the other, in either grouping. -/
theorem compZ_assoc {p q : Nat → Int} (hp : p 0 = 0) (hq : q 0 = 0) (m : Nat) : ∀ a : Nat → Int, compZ (compZ a p) q m = compZ a (compZ p q) m := by
  have hpq : compZ p q 0 = 0 := by rw [compZ_zero_at hq, hp]
  induction m using Nat.strongRecOn with
  | _ m ih =>
    intro a
    rw [compZ_congr hq (a' := fun n => constZ (a 0) n + mulZ p (compZ (tailZ a) p) n) m (fun i _ => compZ_step hp a i), compZ_add hq, compZ_const hq, compZ_mul hq, compZ_step hpq, mulZ_low hpq (fun j hj => ih j hj (tailZ a))]
/-- p with x in the place of x is p. -/
theorem compZ_id (m : Nat) : ∀ a : Nat → Int, compZ a xZ m = a m := by
  have hx : xZ 0 = 0 := rfl
  induction m using Nat.strongRecOn with
  | _ m ih =>
    intro a
    rw [compZ_step hx, mulZ_low hx (fun j hj => ih j hj (tailZ a)), mulZ_x]
    cases m with
    | zero => simp [constZ, shiftZ]
    | succ m => simp [constZ, shiftZ, tailZ]

/-! ### Lagrange's formula -/
/-- Each number times its place. -/
def eulZ (a : Nat → Int) (m : Nat) : Int := (m : Int) * a m
theorem eulZ_conv (a b : Nat → Int) (m : Nat) : ∀ i, (m : Int) * convS a b i m = convS (eulZ a) b i m + convS a (eulZ b) i m
  | 0 => by simp [convS]
  | i + 1 => by
    rw [convS_succ, convS_succ, convS_succ, Int.mul_add, eulZ_conv a b m i]
    by_cases h : i ≤ m
    · rw [if_pos h, if_pos h, if_pos h]
      unfold eulZ
      have e : (m : Int) = (i : Int) + ((m - i : Nat) : Int) := by omega
      have h1 : (m : Int) * (a i * b (m - i)) = (i : Int) * a i * b (m - i) + a i * (((m - i : Nat) : Int) * b (m - i)) := by
        conv => lhs; rw [e]
        rw [Int.add_mul, Int.mul_assoc, Int.mul_left_comm (a i)]
      omega
    · rw [if_neg h, if_neg h, if_neg h]; omega
theorem eulZ_mul (a b : Nat → Int) (m : Nat) : eulZ (mulZ a b) m = mulZ (eulZ a) b m + mulZ a (eulZ b) m := eulZ_conv a b m _
/-- Powers. -/
def pwZ (a : Nat → Int) : Nat → Nat → Int
  | 0 => constZ 1
  | k + 1 => mulZ (pwZ a k) a
theorem pwZ_eul (a : Nat → Int) (k m : Nat) : eulZ (pwZ a (k + 1)) m = (k + 1 : Int) * mulZ (pwZ a k) (eulZ a) m := by
  induction k generalizing m with
  | zero =>
    show (m : Int) * mulZ (constZ 1) a m = _
    rw [mulZ_one]
    show _ = (0 + 1 : Int) * mulZ (constZ 1) (eulZ a) m
    rw [mulZ_one]; simp [eulZ]
  | succ k ih =>
    show eulZ (mulZ (pwZ a (k + 1)) a) m = _
    rw [eulZ_mul, mulZ_congr (a := eulZ (pwZ a (k + 1))) (a' := fun n => (k + 1 : Int) * mulZ (pwZ a k) (eulZ a) n) (fun j _ => ih j) (fun j _ => rfl), mulZ_scale, mulZ_assoc,
      mulZ_congr (b := mulZ (eulZ a) a) (b' := mulZ a (eulZ a)) (fun j _ => rfl) (fun j _ => mulZ_comm _ _ j), ← mulZ_assoc]
    show (k + 1 : Int) * mulZ (pwZ a (k + 1)) (eulZ a) m + mulZ (pwZ a (k + 1)) (eulZ a) m = _
    rw [show ((k + 1 : Nat) : Int) + 1 = (k + 1 : Int) + 1 by omega, Int.add_mul ((k : Int) + 1)]
    omega
/-- The first n shifted by k. -/
def shiftN (k : Nat) (a : Nat → Int) (m : Nat) : Int := if m < k then 0 else a (m - k)
theorem shiftN_succ (k : Nat) (a : Nat → Int) (m : Nat) : mulZ xZ (shiftN k a) m = shiftN (k + 1) a m := by
  rw [mulZ_x]
  cases m with
  | zero => simp [shiftZ, shiftN]
  | succ m =>
    show shiftN k a m = _
    unfold shiftN
    by_cases h : m < k
    · rw [if_pos h, if_pos (by omega)]
    · rw [if_neg h, if_neg (by omega), show m + 1 - (k + 1) = m - k by omega]
/-- Where p times f is x: p to the power k times f to the power k + j is x to the power k times f to the power j. -/
theorem pw_cancel {p f : Nat → Int} (h : ∀ m, mulZ p f m = xZ m) (k j m : Nat) : mulZ (pwZ p k) (pwZ f (j + k)) m = shiftN k (pwZ f j) m := by
  induction k generalizing m with
  | zero =>
    show mulZ (constZ 1) (pwZ f j) m = _
    rw [mulZ_one]; simp [shiftN]
  | succ k ih =>
    show mulZ (mulZ (pwZ p k) p) (mulZ (pwZ f (j + k)) f) m = _
    have e : mulZ (mulZ (pwZ p k) p) (mulZ (pwZ f (j + k)) f) m = mulZ (mulZ p f) (mulZ (pwZ p k) (pwZ f (j + k))) m := by
      rw [mulZ_assoc, mulZ_congr (b := mulZ p (mulZ (pwZ f (j + k)) f)) (b' := mulZ (mulZ p f) (pwZ f (j + k))) (fun i _ => rfl) (fun i _ => by
        rw [mulZ_assoc, mulZ_congr (b := mulZ (pwZ f (j + k)) f) (b' := mulZ f (pwZ f (j + k))) (fun _ _ => rfl) (fun i _ => mulZ_comm _ _ i)]),
        ← mulZ_assoc, mulZ_congr (a := mulZ (pwZ p k) (mulZ p f)) (a' := mulZ (mulZ p f) (pwZ p k)) (fun i _ => mulZ_comm _ _ i) (fun _ _ => rfl), mulZ_assoc]
    rw [e, mulZ_congr (a' := xZ) (b' := shiftN k (pwZ f j)) (fun i _ => h i) (fun i _ => ih i), shiftN_succ]
/-- The derivative. -/
def derZ (a : Nat → Int) (m : Nat) : Int := ((m : Int) + 1) * a (m + 1)
theorem derZ_tail (a : Nat → Int) (m : Nat) : derZ a m = tailZ a m + mulZ xZ (derZ (tailZ a)) m := by
  rw [mulZ_x]
  cases m with
  | zero => simp [derZ, tailZ, shiftZ]
  | succ m =>
    simp only [derZ, tailZ, shiftZ]
    rw [show ((m + 1 : Nat) : Int) + 1 = (m : Int) + 1 + 1 by omega, Int.add_mul ((m : Int) + 1)]
    omega
theorem eulZ_low (a : Nat → Int) : eulZ a 0 = 0 := by simp [eulZ]
/-- The chain rule. -/
theorem eulZ_comp {p : Nat → Int} (hp : p 0 = 0) (m : Nat) : ∀ q : Nat → Int, eulZ (compZ q p) m = mulZ (compZ (derZ q) p) (eulZ p) m := by
  induction m using Nat.strongRecOn with
  | _ m ih =>
    intro q
    have h1 : eulZ (compZ q p) m = eulZ (mulZ p (compZ (tailZ q) p)) m := by
      unfold eulZ
      rw [compZ_step hp]
      by_cases h0 : m = 0
      · subst h0; simp
      · simp [constZ, h0]
    have h2 : mulZ (compZ (derZ q) p) (eulZ p) m = mulZ (compZ (tailZ q) p) (eulZ p) m + mulZ (mulZ p (compZ (derZ (tailZ q)) p)) (eulZ p) m := by
      rw [mulZ_congr (a' := fun j => compZ (tailZ q) p j + mulZ p (compZ (derZ (tailZ q)) p) j) (fun j _ => by
        rw [compZ_congr hp (a' := fun n => tailZ q n + mulZ xZ (derZ (tailZ q)) n) j (fun i _ => derZ_tail q i), compZ_add hp, compZ_mul hp]
        congr 1
        exact mulZ_congr (fun i _ => compZ_x hp i) (fun _ _ => rfl)) (fun _ _ => rfl), mulZ_add]
    rw [h1, eulZ_mul, h2, mulZ_comm (eulZ p), mulZ_low hp (b := eulZ (compZ (tailZ q) p)) (fun j hj => ih j hj (tailZ q)), mulZ_assoc]
/-- The coefficient that tells. -/
theorem tell_one {p f : Nat → Int} (hp : p 0 = 0) (h : ∀ m, mulZ p f m = xZ m) (n : Nat) : mulZ (eulZ p) (pwZ f (n + 1)) (n + 1) = if n = 0 then 1 else 0 := by
  have hxe : ∀ m, mulZ (eulZ p) f m = xZ m - mulZ p (eulZ f) m := by
    intro m
    have h1 := eulZ_mul p f m
    have h2 : eulZ (mulZ p f) m = xZ m := by
      unfold eulZ
      rw [h m]
      unfold xZ
      by_cases hm : m = 1
      · subst hm; simp
      · simp [hm]
    omega
  have h3 : mulZ (eulZ p) (pwZ f (n + 1)) (n + 1) = pwZ f n n - mulZ (mulZ p (pwZ f n)) (eulZ f) (n + 1) := by
    show mulZ (eulZ p) (mulZ (pwZ f n) f) (n + 1) = _
    rw [mulZ_congr (b := mulZ (pwZ f n) f) (b' := mulZ f (pwZ f n)) (fun _ _ => rfl) (fun i _ => mulZ_comm _ _ i), ← mulZ_assoc,
      mulZ_congr (a' := fun m => xZ m + -1 * mulZ p (eulZ f) m) (fun j _ => by rw [hxe j]; omega) (fun _ _ => rfl), mulZ_add, mulZ_scale, mulZ_x]
    show pwZ f n n + _ = _
    rw [mulZ_assoc, mulZ_congr (b := mulZ (eulZ f) (pwZ f n)) (b' := mulZ (pwZ f n) (eulZ f)) (fun _ _ => rfl) (fun i _ => mulZ_comm _ _ i), ← mulZ_assoc]
    omega
  rw [h3]
  cases n with
  | zero =>
    have h4 : mulZ (mulZ p (pwZ f 0)) (eulZ f) 1 = 0 := by
      rw [mulZ_right, mulZ_zero_at, mulZ_zero_at, eulZ_low, hp]; simp
    rw [show (0 : Nat) + 1 = 1 from rfl, h4]
    simp [pwZ, constZ]
  | succ k =>
    have h5 : ∀ m, mulZ p (pwZ f (k + 1)) m = shiftN 1 (pwZ f k) m := by
      intro m
      have h6 := pw_cancel h 1 k m
      rw [← h6]
      exact mulZ_congr (fun j _ => (mulZ_one p j).symm) (fun _ _ => rfl)
    have h7 : ∀ m, shiftN 1 (pwZ f k) m = mulZ xZ (pwZ f k) m := by
      intro m
      rw [mulZ_x]
      cases m with
      | zero => rfl
      | succ m => simp [shiftN, shiftZ]
    rw [mulZ_congr (a' := mulZ xZ (pwZ f k)) (fun j _ => (h5 j).trans (h7 j)) (fun _ _ => rfl), mulZ_assoc, mulZ_x]
    show pwZ f (k + 1) (k + 1) - mulZ (pwZ f k) (eulZ f) (k + 1) = _
    have h8 := pwZ_eul f k (k + 1)
    unfold eulZ at h8
    have h9 : ((k : Int) + 1) * (pwZ f (k + 1) (k + 1) - mulZ (pwZ f k) (eulZ f) (k + 1)) = 0 := by
      rw [Int.mul_sub]
      have e : ((k + 1 : Nat) : Int) = (k : Int) + 1 := by omega
      rw [e] at h8
      exact Int.sub_eq_zero.2 h8
    rcases Int.mul_eq_zero.1 h9 with h10 | h10
    · omega
    · rw [h10]; simp
theorem tell_all {p f : Nat → Int} (hp : p 0 = 0) (h : ∀ m, mulZ p f m = xZ m) (n : Nat) : ∀ g : Nat → Int, mulZ (mulZ (compZ g p) (eulZ p)) (pwZ f (n + 1)) (n + 1) = g n := by
  induction n with
  | zero =>
    intro g
    have e : mulZ (mulZ (compZ g p) (eulZ p)) (pwZ f 1) 1 = g 0 * mulZ (eulZ p) (pwZ f 1) 1 + mulZ p (mulZ (mulZ (compZ (tailZ g) p) (eulZ p)) (pwZ f 1)) 1 := by
      rw [mulZ_assoc, mulZ_congr (a' := fun j => constZ (g 0) j + mulZ p (compZ (tailZ g) p) j) (fun j _ => compZ_step hp g j) (fun _ _ => rfl), mulZ_add, mulZ_const, mulZ_assoc]
      congr 1
      exact mulZ_congr (fun _ _ => rfl) (fun i _ => (mulZ_assoc _ _ _ i).symm)
    have h0 : mulZ p (mulZ (mulZ (compZ (tailZ g) p) (eulZ p)) (pwZ f 1)) 1 = 0 := by
      rw [mulZ_left, mulZ_zero_at, mulZ_zero_at, mulZ_zero_at, eulZ_low, hp]; simp
    show mulZ (mulZ (compZ g p) (eulZ p)) (pwZ f 1) 1 = g 0
    rw [e, h0, tell_one hp h 0]; simp
  | succ n ih =>
    intro g
    have e : mulZ (mulZ (compZ g p) (eulZ p)) (pwZ f (n + 2)) (n + 2) = g 0 * mulZ (eulZ p) (pwZ f (n + 2)) (n + 2) + mulZ (mulZ (compZ (tailZ g) p) (eulZ p)) (mulZ p (pwZ f (n + 2))) (n + 2) := by
      rw [mulZ_assoc, mulZ_congr (a' := fun j => constZ (g 0) j + mulZ p (compZ (tailZ g) p) j) (fun j _ => compZ_step hp g j) (fun _ _ => rfl), mulZ_add, mulZ_const]
      congr 1
      rw [mulZ_congr (a := mulZ p (compZ (tailZ g) p)) (a' := mulZ (compZ (tailZ g) p) p) (fun i _ => mulZ_comm _ _ i) (fun _ _ => rfl), mulZ_assoc, mulZ_assoc]
      refine mulZ_congr (fun _ _ => rfl) (fun i _ => ?_)
      rw [← mulZ_assoc, mulZ_congr (a := mulZ p (eulZ p)) (a' := mulZ (eulZ p) p) (fun i _ => mulZ_comm _ _ i) (fun _ _ => rfl), mulZ_assoc]
    have h5 : ∀ m, mulZ p (pwZ f (n + 2)) m = mulZ xZ (pwZ f (n + 1)) m := by
      intro m
      have h6 := pw_cancel h 1 (n + 1) m
      rw [mulZ_congr (a := p) (a' := pwZ p 1) (fun j _ => (mulZ_one p j).symm) (fun _ _ => rfl), h6, mulZ_x]
      cases m with
      | zero => rfl
      | succ m => simp [shiftN, shiftZ]
    show mulZ (mulZ (compZ g p) (eulZ p)) (pwZ f (n + 2)) (n + 2) = g (n + 1)
    rw [e, tell_one hp h (n + 1), mulZ_congr (b := mulZ p (pwZ f (n + 2))) (b' := mulZ xZ (pwZ f (n + 1))) (fun _ _ => rfl) (fun i _ => h5 i), mulZ_comm, mulZ_assoc, mulZ_x]
    show _ + mulZ (pwZ f (n + 1)) (mulZ (compZ (tailZ g) p) (eulZ p)) (n + 1) = _
    rw [mulZ_comm, ih (tailZ g)]
    simp [tailZ]
/-- LAGRANGE: where q with p in the place of x is x, and p times f is x, n times q's number n is the number n - 1 of f to the power n. -/
theorem lagrange {p f q : Nat → Int} (hp : p 0 = 0) (h : ∀ m, mulZ p f m = xZ m) (hq : ∀ m, compZ q p m = xZ m) (n : Nat) : ((n : Int) + 1) * q (n + 1) = pwZ f (n + 1) n := by
  have h1 := tell_all hp h n (derZ q)
  have h2 : mulZ (mulZ (compZ (derZ q) p) (eulZ p)) (pwZ f (n + 1)) (n + 1) = pwZ f (n + 1) n := by
    rw [mulZ_congr (a' := xZ) (fun j _ => by
      rw [← eulZ_comp hp]
      unfold eulZ
      rw [hq j]
      unfold xZ
      by_cases hj : j = 1
      · subst hj; simp
      · simp [hj]) (fun _ _ => rfl), mulZ_x]
    rfl
  rw [h2] at h1
  exact h1.symm
end Go.Proofs.Ytmnfokapdipcdaa
/- Plain laws of power series: the series that undoes another; what the program reckons is it. -/
namespace Go.Proofs.Ytmnfokapdipcdaa
theorem compZ_congr_right {a q q' : Nat → Int} (hq : q 0 = 0) (hq' : q' 0 = 0) (m : Nat) (h : ∀ j, j ≤ m → q j = q' j) : compZ a q m = compZ a q' m := by
  induction m using Nat.strongRecOn generalizing a with
  | _ m ih =>
    rw [compZ_step hq, compZ_step hq', mulZ_low hq (fun j hj => ih j hj (fun i hi => h i (by omega)) (a := tailZ a)), mulZ_congr h (fun _ _ => rfl)]
/-- The first n numbers of the series that undoes p. -/
def revL (p : Nat → Int) : Nat → List Int
  | 0 => []
  | n + 1 => revL p n ++ [if n = 0 then 0 else ((if n = 1 then 1 else 0) - compZ p (fun j => (revL p n).getD j 0) n) * p 1]
theorem revL_length (p : Nat → Int) (n : Nat) : (revL p n).length = n := by
  induction n with
  | zero => rfl
  | succ n ih => simp [revL, ih]
def revZ (p : Nat → Int) (k : Nat) : Int := (revL p (k + 1)).getD k 0
theorem revL_getD (p : Nat → Int) {n i : Nat} (h : i < n) : (revL p n).getD i 0 = revZ p i := by
  induction n with
  | zero => omega
  | succ n ih =>
    by_cases hi : i = n
    · subst hi; rfl
    · rw [← ih (by omega)]
      simp [revL, List.getElem?_append_left, revL_length, show i < n by omega]
theorem revL_past (p : Nat → Int) {n i : Nat} (h : n ≤ i) : (revL p n).getD i 0 = 0 := by
  simp [List.getElem?_eq_none (show (revL p n).length ≤ i by rw [revL_length]; exact h)]
theorem revZ_zero (p : Nat → Int) : revZ p 0 = 0 := rfl
/-- The first n numbers, noughts behind them. -/
def cutZ (q : Nat → Int) (n m : Nat) : Int := if m < n then q m else 0
theorem revL_cut (p : Nat → Int) (n m : Nat) : (revL p n).getD m 0 = cutZ (revZ p) n m := by
  unfold cutZ
  by_cases h : m < n
  · rw [if_pos h, revL_getD p h]
  · rw [if_neg h, revL_past p (by omega)]
theorem revZ_step (p : Nat → Int) (n : Nat) (hn : 1 ≤ n) : revZ p n = ((if n = 1 then 1 else 0) - compZ p (cutZ (revZ p) n) n) * p 1 := by
  have e : (fun j => (revL p n).getD j 0) = cutZ (revZ p) n := funext (revL_cut p n)
  show (revL p (n + 1)).getD n 0 = _
  rw [show (revL p (n + 1)).getD n 0 = (if n = 0 then 0 else ((if n = 1 then 1 else 0) - compZ p (fun j => (revL p n).getD j 0) n) * p 1) by simp [revL, revL_length], if_neg (by omega), e]
/-- What the number at its own place adds. -/
theorem comp_last {p r : Nat → Int} (hr : r 0 = 0) (m : Nat) : compZ p r (m + 1) = compZ p (cutZ r (m + 1)) (m + 1) + p 1 * r (m + 1) := by
  have hc : cutZ r (m + 1) 0 = 0 := by simp [cutZ, hr]
  rw [compZ_step hr, compZ_step hc, mulZ_left r, mulZ_left (cutZ r (m + 1)), hr, hc]
  have hb : ∀ j, j ≤ m → compZ (tailZ p) r j = compZ (tailZ p) (cutZ r (m + 1)) j := fun j hj =>
    compZ_congr_right hr hc j (fun i hi => by simp [cutZ, show i < m + 1 by omega])
  have hb0 : compZ (tailZ p) (cutZ r (m + 1)) 0 = p 1 := by rw [compZ_zero_at hc]; rfl
  rw [mulZ_congr (a := tailZ r) (fun _ _ => rfl) hb]
  cases m with
  | zero =>
    rw [mulZ_zero_at, mulZ_zero_at, hb0]
    simp only [tailZ, cutZ]
    simp [constZ, Int.mul_comm]
  | succ m =>
    rw [mulZ_right, mulZ_right (tailZ (cutZ r (m + 1 + 1))), hb0]
    have h1 : tailZ (cutZ r (m + 1 + 1)) (m + 1) = 0 := by simp [tailZ, cutZ]
    rw [h1, mulZ_congr (a := tailZ r) (a' := tailZ (cutZ r (m + 1 + 1))) (fun j hj => by simp [tailZ, cutZ, show j + 1 < m + 1 + 1 by omega]) (fun _ _ => rfl), Int.mul_comm (p 1)]
    simp only [tailZ]
    omega
theorem rev_right {p : Nat → Int} (hp : p 0 = 0) (h1 : p 1 * p 1 = 1) (m : Nat) : compZ p (revZ p) m = xZ m := by
  cases m with
  | zero => rw [compZ_zero_at (revZ_zero p), hp]; rfl
  | succ m =>
    rw [comp_last (revZ_zero p), revZ_step p (m + 1) (by omega), ← Int.mul_assoc, Int.mul_comm (p 1), Int.mul_assoc, h1]
    unfold xZ
    by_cases hm : m + 1 = 1
    · rw [if_pos hm]; omega
    · rw [if_neg hm]; omega
theorem revZ_one {p : Nat → Int} : revZ p 1 = p 1 := by
  rw [revZ_step p 1 (Nat.le_refl _)]
  have hc : cutZ (revZ p) 1 0 = 0 := rfl
  have h : compZ p (cutZ (revZ p) 1) 1 = 0 := by
    rw [compZ_step hc, mulZ_left, mulZ_zero_at]
    simp [cutZ, tailZ, constZ, revZ_zero]
  rw [h]; simp
/-- It is the series' own undoing from both sides. -/
theorem rev_left {p : Nat → Int} (hp : p 0 = 0) (h1 : p 1 * p 1 = 1) (m : Nat) : compZ (revZ p) p m = xZ m := by
  have hr0 := revZ_zero p
  have hs0 := revZ_zero (revZ p)
  have hr1 : revZ p 1 * revZ p 1 = 1 := by rw [revZ_one]; exact h1
  have hrs := rev_right hr0 hr1
  have hsp : ∀ k, revZ (revZ p) k = p k := by
    intro k
    have e1 : compZ (compZ p (revZ p)) (revZ (revZ p)) k = revZ (revZ p) k := by
      rw [compZ_congr hs0 k (fun j _ => rev_right hp h1 j), compZ_x hs0]
    have e2 : compZ (compZ p (revZ p)) (revZ (revZ p)) k = p k := by
      rw [compZ_assoc hr0 hs0]
      have hx : xZ 0 = 0 := rfl
      have hc : compZ (revZ p) (revZ (revZ p)) 0 = 0 := by rw [hrs 0]; rfl
      rw [compZ_congr_right hc hx k (fun j _ => hrs j), compZ_id]
    rw [← e1, e2]
  rw [← hrs m]
  exact compZ_congr_right hp hs0 m (fun j _ => (hsp j).symm)
/-- What undoes what undoes it is the series. -/
theorem rev_rev {p : Nat → Int} (hp : p 0 = 0) (h1 : p 1 * p 1 = 1) (k : Nat) : revZ (revZ p) k = p k := by
  have hr0 := revZ_zero p
  have hs0 := revZ_zero (revZ p)
  have hr1 : revZ p 1 * revZ p 1 = 1 := by rw [revZ_one]; exact h1
  have hrs := rev_right hr0 hr1
  have e1 : compZ (compZ p (revZ p)) (revZ (revZ p)) k = revZ (revZ p) k := by
    rw [compZ_congr hs0 k (fun j _ => rev_right hp h1 j), compZ_x hs0]
  have e2 : compZ (compZ p (revZ p)) (revZ (revZ p)) k = p k := by
    rw [compZ_assoc hr0 hs0]
    have hx : xZ 0 = 0 := rfl
    have hc : compZ (revZ p) (revZ (revZ p)) 0 = 0 := by rw [hrs 0]; rfl
    rw [compZ_congr_right hc hx k (fun j _ => hrs j), compZ_id]
  rw [← e1, e2]
/-- Only the numbers up to a place tell the number at that place. -/
theorem revZ_congr {p p' : Nat → Int} : ∀ m, (∀ j, j ≤ m → p j = p' j) → (∀ j, j ≤ 1 → p j = p' j) → revZ p m = revZ p' m := by
  intro m
  induction m using Nat.strongRecOn with
  | _ m ih =>
    intro h hl
    by_cases hm : m = 0
    · subst hm; rfl
    · have hc : cutZ (revZ p) m 0 = 0 := by simp [cutZ, revZ_zero]
      have hc' : cutZ (revZ p') m 0 = 0 := by simp [cutZ, revZ_zero]
      rw [revZ_step p m (by omega), revZ_step p' m (by omega), hl 1 (Nat.le_refl _), compZ_congr hc m h, compZ_congr_right hc hc' m (fun j _ => by
        unfold cutZ
        by_cases hj : j < m
        · rw [if_pos hj, if_pos hj, ih j hj (fun i hi => h i (by omega)) hl]
        · rw [if_neg hj, if_neg hj])]

/-! ### what the program reckons -/
theorem horn_comp {a b : Nat → Int} (hb : b 0 = 0) (K m : Nat) : ∀ k, k ≤ K → hornZ a b K k m = compZ (fun j => if j < k then a (K - k + j) else 0) b m
  | 0, _ => by
    rw [compZ_congr hb (a' := fun n => 0 * xZ n) m (fun j _ => by simp), compZ_scale hb]; simp [hornZ]
  | k + 1, hk => by
    rw [compZ_step hb]
    show mulZ (hornZ a b K k) b m + (if m = 0 then a (K - 1 - k) else 0) = _
    have e : ∀ j, compZ (tailZ fun j => if j < k + 1 then a (K - (k + 1) + j) else 0) b j = hornZ a b K k j := by
      intro j
      rw [horn_comp hb K j k (by omega)]
      refine compZ_congr hb j (fun i _ => ?_)
      simp only [tailZ]
      by_cases hi : i < k
      · rw [if_pos (by omega), if_pos hi, show K - (k + 1) + (i + 1) = K - k + i by omega]
      · rw [if_neg (by omega), if_neg hi]
    rw [mulZ_congr (a := b) (b' := hornZ a b K k) (fun _ _ => rfl) (fun j _ => e j), mulZ_comm b]
    have e0 : (if 0 < k + 1 then a (K - (k + 1) + 0) else 0) = a (K - 1 - k) := by
      rw [if_pos (by omega), show K - (k + 1) + 0 = K - 1 - k by omega]
    show _ = (if m = 0 then (if 0 < k + 1 then a (K - (k + 1) + 0) else 0) else 0) + _
    rw [e0]
    omega
/-- By Horner it is the one in the place of the other's x. -/
theorem horn_is {a b : Nat → Int} (hb : b 0 = 0) {K m : Nat} (h : ∀ j, j ≤ m → K ≤ j → a j = 0) : hornZ a b K K m = compZ a b m := by
  rw [horn_comp hb K m K (Nat.le_refl _)]
  refine compZ_congr hb m (fun j hj => ?_)
  by_cases hk : j < K
  · rw [if_pos hk, Nat.sub_self, Nat.zero_add]
  · rw [if_neg hk, h j hj (by omega)]
theorem powZ_is {a f : Nat → Int} (ha : ∀ m, a m = constZ 1 m) (k m : Nat) : powZ a f k m = pwZ f k m := by
  induction k generalizing m with
  | zero => exact ha m
  | succ k ih => exact mulZ_congr (fun j _ => ih j) (fun _ _ => rfl)
theorem subs_conv (a : Int) (o b : Nat → Int) (i : Nat) : ∀ k, k ≤ i → subs a o b i k = a - (convS b o (k + 1) i - b 0 * o i)
  | 0, _ => by
    rw [convS_succ]
    simp [subs, convS]
  | k + 1, hk => by
    show subs a o b i k - o (i - (k + 1)) * b (k + 1) = _
    rw [subs_conv a o b i k (by omega), convS_succ b o (k + 1), if_pos hk, Int.mul_comm (o (i - (k + 1)))]
    omega
/-- A quotient times what was divided by is what was divided. -/
theorem over_mul {a b : Nat → Int} (hb : (b 0).natAbs = 1) (m : Nat) : mulZ b (overZ a b) m = a m := by
  have h1 := subs_conv (a m) (overZ a b) b m m (Nat.le_refl m)
  have h2 := overZ_eq a b m
  simp only at h2
  show convS b (overZ a b) (m + 1) m = _
  have h3 : b 0 * overZ a b m = subs (a m) (overZ a b) b m m := by
    rw [h2]
    have h4 : b 0 = 1 ∨ b 0 = -1 := by omega
    rcases h4 with h4 | h4
    · rw [h4]; simp
    · rw [h4]; simp
  omega
theorem undo_prod {p a : Nat → Int} (hp : p 0 = 0) (h1 : (p 1).natAbs = 1) (ha : ∀ m, a m = constZ 1 m) (m : Nat) : mulZ p (overZ a (tailZ p)) m = xZ m := by
  cases m with
  | zero => rw [mulZ_zero_at, hp]; simp [xZ]
  | succ m =>
    rw [mulZ_left, hp, over_mul (b := tailZ p) h1 m, ha m]
    unfold constZ xZ
    by_cases hm : m = 0
    · subst hm; simp
    · rw [if_neg hm, if_neg (by omega)]; simp
theorem sq_one {x : Int} (h : x.natAbs = 1) : x * x = 1 := by
  have h4 : x = 1 ∨ x = -1 := by omega
  rcases h4 with h4 | h4 <;> rw [h4] <;> rfl
/-- What Lagrange's formula tells is the series that undoes p. -/
theorem lag_is {p a : Nat → Int} (hp : p 0 = 0) (h1 : (p 1).natAbs = 1) (ha : ∀ m, a m = constZ 1 m) (m : Nat) : lagZ a (overZ a (tailZ p)) m = revZ p m := by
  unfold lagZ
  cases m with
  | zero => rfl
  | succ m =>
    have h2 := lagrange hp (undo_prod hp h1 ha) (rev_left hp (sq_one h1)) m
    rw [if_neg (by omega), powZ_is ha, Nat.add_sub_cancel, ← h2, show ((m + 1 : Nat) : Int) = (m : Int) + 1 by omega, Int.mul_tdiv_cancel_left _ (by omega)]
/-! ### what is told, of numbers that are the same -/
theorem topZ_congr {z z' : Nat → Int} : ∀ n, (∀ i, i < n → z i = z' i) → topZ z n = topZ z' n
  | 0, _ => rfl
  | n + 1, h => by
    unfold topZ
    rw [h n (by omega), topZ_congr n (fun i hi => h i (by omega))]
theorem toldZ_congr {z z' : Nat → Int} {n : Nat} (h : ∀ i, i < n → z i = z' i) : toldZ z n = toldZ z' n := by
  unfold toldZ
  rw [topZ_congr n h]
  have ht := topZ_le z' n
  have h1 : (List.range (topZ z' n)).any (fun i => decide (262144 < nbits (z i).natAbs)) = (List.range (topZ z' n)).any (fun i => decide (262144 < nbits (z' i).natAbs)) := by
    rw [Bool.eq_iff_iff, List.any_eq_true, List.any_eq_true]
    constructor
    · rintro ⟨i, hi, hb⟩
      have := List.mem_range.1 hi
      exact ⟨i, hi, by rw [← h i (by omega)]; exact hb⟩
    · rintro ⟨i, hi, hb⟩
      have := List.mem_range.1 hi
      exact ⟨i, hi, by rw [h i (by omega)]; exact hb⟩
  have h2 : (List.range (topZ z' n)).map (fun i => rawOf (z i)) = (List.range (topZ z' n)).map (fun i => rawOf (z' i)) := by
    apply List.map_congr_left
    intro i hi
    have := List.mem_range.1 hi
    rw [h i (by omega)]
  rw [h1, h2]
end Go.Proofs.Ytmnfokapdipcdaa
