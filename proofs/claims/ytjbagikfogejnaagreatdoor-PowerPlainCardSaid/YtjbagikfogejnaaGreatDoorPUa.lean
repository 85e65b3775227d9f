import Derived.Test.YtjbagikfogejnaaGreatDoorProg
import Derived.WalkKit
import Derived.Laws.OwnMore
import Derived.Deep.Draws
import Derived.Deep.OwnRows
import Derived.Deep.LoopGhost
import Derived.Deep.QuietTactic
import Derived.BigQuiet
import Derived.Lib.Hide
import Derived.Maps.AppendAt
import Derived.Laws.Rows
import Derived.OneCell
import Derived.Shelf.Spec.BitsCarry
import Derived.Deep.DeepCutAuto
import Derived.Shelf.Small.Bits
import Derived.Shelf.Strconv.Itoa0
import Derived.Shelf.Bits.Mul64
import Derived.Lib.BitFns
import Derived.Deep.CutBlock
import Derived.BigRegion
import Derived.StillTailTactics
import Derived.Deep.AppendLies
import Derived.Orders
import Derived.Lib.SliceRun
import Derived.Deep.MidRow
import Derived.BigCall
import Derived.Laws.AppendOwn
import Derived.Great.BuildSlice
import Derived.Laws.Append
import Derived.Deep.RegionWith
import Derived.WalkMore
import Derived.Laws.EntriesVeiled
import Derived.Laws.CopyOwn
import Derived.Scope
import Derived.Test.YtjbagikfogejnaaGreatDoorRows
import Derived.ProofKit
import Derived.OpenShut
import Derived.Deep.SlicePairs
import Derived.WideKeyArgs
import Derived.Test.YtjbagikfogejnaaGreatDoorCards
import Derived.Test.YtjbagikfogejnaaGreatDoorTie
import Derived.LaidMore
import Derived.Stop.Joined
import Derived.SevenTiedAt
/- Of: Num, Mem, Shelf, Bits, Nat, Div64, Nat3, Nat5, Nat6, Plan, Int, Int2, Poly, Law1, Law2, Box, Kit, Raw, Rec, App, Dig, Ref1. -/
/- Plain numbers: limbs (base 2^64, the lowest first) and their worth. No program in sight. -/
namespace Go.Proofs.YtjbagikfogejnaaGreatDoor
/-- 2^64, kept behind a name. -/
@[irreducible] def W64 : Nat := 18446744073709551616
theorem W64_eq : W64 = 18446744073709551616 := by unfold W64; rfl
theorem W64_pos : 0 < W64 := by rw [W64_eq]; decide
theorem W64_ge : 2 ≤ W64 := by rw [W64_eq]; decide
def val : List Nat → Nat
  | [] => 0
  | x :: xs => x + W64 * val xs
def Small (xs : List Nat) : Prop := ∀ x ∈ xs, x < W64
@[simp] theorem val_nil : val [] = 0 := rfl
@[simp] theorem val_cons (x : Nat) (xs : List Nat) : val (x :: xs) = x + W64 * val xs := rfl
theorem Small.nil : Small [] := fun _ h => nomatch h
theorem Small.cons {x : Nat} {xs : List Nat} (hx : x < W64) (h : Small xs) : Small (x :: xs) := by
  intro y hy
  rcases List.mem_cons.1 hy with rfl | hy
  · exact hx
  · exact h y hy
theorem Small.head {x : Nat} {xs : List Nat} (h : Small (x :: xs)) : x < W64 := h x (by simp)
theorem Small.tail {x : Nat} {xs : List Nat} (h : Small (x :: xs)) : Small xs := fun y hy => h y (by simp [hy])
theorem Small.append {xs ys : List Nat} (h : Small xs) (k : Small ys) : Small (xs ++ ys) := by
  intro y hy
  rcases List.mem_append.1 hy with hy | hy
  · exact h y hy
  · exact k y hy
theorem Small.take {xs : List Nat} (h : Small xs) (n : Nat) : Small (xs.take n) := fun y hy => h y (List.mem_of_mem_take hy)
theorem Small.drop {xs : List Nat} (h : Small xs) (n : Nat) : Small (xs.drop n) := fun y hy => h y (List.mem_of_mem_drop hy)
theorem Small.getD {xs : List Nat} (h : Small xs) (k : Nat) : xs.getD k 0 < W64 := by
  by_cases hk : k < xs.length
  · have e : xs.getD k 0 = xs[k] := by simp [hk]
    rw [e]; exact h _ (List.getElem_mem hk)
  · have e : xs.getD k 0 = 0 := by simp [show xs.length ≤ k by omega]
    rw [e]; exact W64_pos
theorem Small.set {xs : List Nat} (h : Small xs) (k x : Nat) (hx : x < W64) : Small (xs.set k x) := by
  intro y hy
  rcases List.mem_or_eq_of_mem_set hy with hy | rfl
  · exact h y hy
  · exact hx
theorem Small.zeros (n : Nat) : Small (List.replicate n 0) := by
  intro y hy
  rw [(List.mem_replicate.1 hy).2]; exact W64_pos
theorem Small.one {x : Nat} (hx : x < W64) : Small [x] := Small.cons hx Small.nil
theorem val_append (xs ys : List Nat) : val (xs ++ ys) = val xs + W64 ^ xs.length * val ys := by
  induction xs with
  | nil => simp
  | cons x xs ih => simp only [List.cons_append, val_cons, ih, List.length_cons, Nat.pow_succ]; grind
theorem val_snoc (xs : List Nat) (y : Nat) : val (xs ++ [y]) = val xs + W64 ^ xs.length * y := by
  rw [val_append]; simp
theorem val_zeros (n : Nat) : val (List.replicate n 0) = 0 := by
  induction n with
  | zero => rfl
  | succ n ih => simp [List.replicate_succ, ih]
theorem val_lt {xs : List Nat} (h : Small xs) : val xs < W64 ^ xs.length := by
  induction xs with
  | nil => simp
  | cons x xs ih =>
    have h1 := h.head
    have h2 := ih h.tail
    simp only [val_cons, List.length_cons, Nat.pow_succ]
    have h3 : W64 * val xs + W64 ≤ W64 * W64 ^ xs.length := by
      have := Nat.mul_le_mul_left W64 (show val xs + 1 ≤ W64 ^ xs.length from h2)
      rwa [Nat.mul_add, Nat.mul_one] at this
    rw [Nat.mul_comm (W64 ^ xs.length)]
    omega
theorem val_take_succ (xs : List Nat) (k : Nat) (hk : k < xs.length) : val (xs.take (k + 1)) = val (xs.take k) + W64 ^ k * xs.getD k 0 := by
  have e : xs.getD k 0 = xs[k] := by simp [hk]
  rw [List.take_succ_eq_append_getElem hk, val_snoc, e, List.length_take, Nat.min_eq_left (by omega)]
theorem val_take_over (xs : List Nat) (k : Nat) (hk : xs.length ≤ k) : val (xs.take (k + 1)) = val (xs.take k) + W64 ^ k * xs.getD k 0 := by
  rw [List.take_of_length_le (by omega), List.take_of_length_le hk, show xs.getD k 0 = 0 by simp [hk]]; simp
/-- The digit of a place, 0 behind the end: the worth of one digit more. -/
theorem val_take_step (xs : List Nat) (k : Nat) : val (xs.take (k + 1)) = val (xs.take k) + W64 ^ k * xs.getD k 0 := by
  by_cases hk : k < xs.length
  · exact val_take_succ xs k hk
  · exact val_take_over xs k (by omega)
theorem val_split (xs : List Nat) (k : Nat) (hk : k ≤ xs.length) : val xs = val (xs.take k) + W64 ^ k * val (xs.drop k) := by
  have h := val_append (xs.take k) (xs.drop k)
  rw [List.take_append_drop, List.length_take, Nat.min_eq_left hk] at h
  exact h
theorem val_drop_step (xs : List Nat) (k : Nat) (hk : k < xs.length) : val (xs.drop k) = xs.getD k 0 + W64 * val (xs.drop (k + 1)) := by
  have e : xs.getD k 0 = xs[k] := by simp [hk]
  rw [List.drop_eq_getElem_cons hk, val_cons, e]
theorem take_set_succ (os : List Nat) (k x : Nat) (hk : k < os.length) : (os.set k x).take (k + 1) = os.take k ++ [x] := by
  rw [List.take_succ_eq_append_getElem (by simpa using hk), List.take_set_of_le (Nat.le_refl k)]
  simp
theorem val_take_set (os : List Nat) (k x : Nat) (hk : k < os.length) : val ((os.set k x).take (k + 1)) = val (os.take k) + W64 ^ k * x := by
  rw [take_set_succ os k x hk, val_snoc, List.length_take, Nat.min_eq_left (by omega)]
/-! ### noughts on top; the limbs of a number -/
def trimL (xs : List Nat) : List Nat := (xs.reverse.dropWhile (· == 0)).reverse
theorem trimL_snoc_zero (xs : List Nat) : trimL (xs ++ [0]) = trimL xs := by simp [trimL]
theorem trimL_snoc_pos (xs : List Nat) (x : Nat) (h : x ≠ 0) : trimL (xs ++ [x]) = xs ++ [x] := by
  have e : (x == 0) = false := by simpa using h
  simp [trimL, e]
theorem trimL_zero (xs : List Nat) (n : Nat) (hn : n < xs.length) (h : xs.getD n 0 = 0) : trimL (xs.take (n + 1)) = trimL (xs.take n) := by
  have e : xs.getD n 0 = xs[n] := by simp [hn]
  rw [List.take_succ_eq_append_getElem hn, ← e, h, trimL_snoc_zero]
theorem trimL_pos (xs : List Nat) (n : Nat) (hn : n < xs.length) (h : xs.getD n 0 ≠ 0) : trimL (xs.take (n + 1)) = xs.take (n + 1) := by
  have e : xs.getD n 0 = xs[n] := by simp [hn]
  rw [List.take_succ_eq_append_getElem hn, ← e, trimL_snoc_pos _ _ h]
def limbs (n : Nat) : List Nat := if n = 0 then [] else n % W64 :: limbs (n / W64)
termination_by n
decreasing_by exact Nat.div_lt_self (by omega) W64_ge
theorem limbs_zero : limbs 0 = [] := by rw [limbs]; simp
theorem limbs_pos {n : Nat} (h : n ≠ 0) : limbs n = n % W64 :: limbs (n / W64) := by rw [limbs]; simp [h]
theorem limbs_eq_nil {n : Nat} : limbs n = [] ↔ n = 0 := by
  constructor
  · intro h
    by_cases h0 : n = 0
    · exact h0
    · rw [limbs_pos h0] at h; cases h
  · rintro rfl; exact limbs_zero
theorem val_limbs (n : Nat) : val (limbs n) = n := by
  induction n using Nat.strongRecOn with
  | _ n ih =>
    by_cases h : n = 0
    · subst h; rw [limbs_zero]; rfl
    · rw [limbs_pos h, val_cons, ih _ (Nat.div_lt_self (by omega) W64_ge)]
      exact Nat.mod_add_div n W64
theorem small_limbs (n : Nat) : Small (limbs n) := by
  induction n using Nat.strongRecOn with
  | _ n ih =>
    by_cases h : n = 0
    · subst h; rw [limbs_zero]; exact Small.nil
    · rw [limbs_pos h]
      exact Small.cons (Nat.mod_lt _ W64_pos) (ih _ (Nat.div_lt_self (by omega) W64_ge))
/-- No nought on top. -/
def Norm (xs : List Nat) : Prop := xs = [] ∨ xs.getD (xs.length - 1) 0 ≠ 0
theorem norm_limbs (n : Nat) : Norm (limbs n) := by
  induction n using Nat.strongRecOn with
  | _ n ih =>
    by_cases h : n = 0
    · subst h; left; exact limbs_zero
    · right
      rw [limbs_pos h]
      rcases ih _ (Nat.div_lt_self (by omega) W64_ge) with h0 | h0
      · rw [h0]
        have : n / W64 = 0 := limbs_eq_nil.1 h0
        have hl : n < W64 := by
          rcases Nat.lt_or_ge n W64 with h | h
          · exact h
          · have := Nat.div_pos h W64_pos; omega
        simpa [Nat.mod_eq_of_lt hl] using h
      · have hn : (limbs (n / W64)) ≠ [] := by
          intro e; rw [e] at h0; simp at h0
        obtain ⟨y, ys, e⟩ := List.exists_cons_of_ne_nil hn
        rw [e] at h0 ⊢
        simpa using h0
/-- Two lists without noughts on top that are worth the same are the same. -/
theorem val_inj {xs ys : List Nat} (h1 : Small xs) (h2 : Small ys) (n1 : Norm xs) (n2 : Norm ys) (h : val xs = val ys) : xs = ys := by
  induction xs generalizing ys with
  | nil =>
    cases ys with
    | nil => rfl
    | cons y ys =>
      exfalso
      have hz : ∀ zs : List Nat, val zs = 0 → ∀ k, zs.getD k 0 = 0 := by
        intro zs
        induction zs with
        | nil => intro _ k; simp
        | cons z zs ih =>
          intro h k
          simp only [val_cons] at h
          have hz : z = 0 := by omega
          have hv : val zs = 0 := by
            rcases Nat.eq_zero_or_pos (val zs) with h0 | h0
            · exact h0
            · have := Nat.mul_pos W64_pos h0; omega
          cases k with
          | zero => simpa using hz
          | succ k => simpa using ih hv k
      rcases n2 with n2 | n2
      · cases n2
      · exact n2 (hz _ h.symm _)
  | cons x xs ih =>
    cases ys with
    | nil =>
      exfalso
      have hz : ∀ zs : List Nat, val zs = 0 → ∀ k, zs.getD k 0 = 0 := by
        intro zs
        induction zs with
        | nil => intro _ k; simp
        | cons z zs ih =>
          intro h k
          simp only [val_cons] at h
          have hz : z = 0 := by omega
          have hv : val zs = 0 := by
            rcases Nat.eq_zero_or_pos (val zs) with h0 | h0
            · exact h0
            · have := Nat.mul_pos W64_pos h0; omega
          cases k with
          | zero => simpa using hz
          | succ k => simpa using ih hv k
      rcases n1 with n1 | n1
      · cases n1
      · exact n1 (hz _ h _)
    | cons y ys =>
      simp only [val_cons] at h
      have hx := h1.head
      have hy := h2.head
      have e1 : x = y := by
        have := congrArg (· % W64) h
        simpa [Nat.add_mul_mod_self_left, Nat.mod_eq_of_lt hx, Nat.mod_eq_of_lt hy] using this
      have e2 : val xs = val ys := by
        have : W64 * val xs = W64 * val ys := by omega
        exact Nat.eq_of_mul_eq_mul_left W64_pos this
      have t1 : ∀ (z : Nat) (zs : List Nat), Norm (z :: zs) → Norm zs := by
        intro z zs hz
        rcases hz with hz | hz
        · cases hz
        · cases zs with
          | nil => exact .inl rfl
          | cons a zs => right; simpa using hz
      rw [e1, ih h1.tail h2.tail (t1 _ _ n1) (t1 _ _ n2) e2]
theorem val_trimL (xs : List Nat) : val (trimL xs) = val xs := by
  induction h : xs.length generalizing xs with
  | zero => have := List.eq_nil_of_length_eq_zero h; subst this; rfl
  | succ n ih =>
    have hn : n < xs.length := by omega
    have e : xs = xs.take n ++ [xs[n]] := by
      rw [← List.take_succ_eq_append_getElem hn, List.take_of_length_le (by omega)]
    have hl : (xs.take n).length = n := by simp; omega
    by_cases h0 : xs[n] = 0
    · rw [e, h0, trimL_snoc_zero, val_snoc, ih _ hl]; simp
    · rw [e, trimL_snoc_pos _ _ h0]
theorem norm_trimL (xs : List Nat) : Norm (trimL xs) := by
  induction h : xs.length generalizing xs with
  | zero => have := List.eq_nil_of_length_eq_zero h; subst this; exact .inl rfl
  | succ n ih =>
    have hn : n < xs.length := by omega
    have e : xs = xs.take n ++ [xs[n]] := by
      rw [← List.take_succ_eq_append_getElem hn, List.take_of_length_le (by omega)]
    have hl : (xs.take n).length = n := by simp; omega
    by_cases h0 : xs[n] = 0
    · rw [e, h0, trimL_snoc_zero]; exact ih _ hl
    · rw [e, trimL_snoc_pos _ _ h0]
      right
      rw [List.length_append, hl, List.length_singleton, Nat.add_sub_cancel, List.getD_eq_getElem?_getD, List.getElem?_append_right (by omega), hl]
      simpa using h0
theorem trimL_prefix (xs : List Nat) : trimL xs = xs.take (trimL xs).length := by
  induction h : xs.length generalizing xs with
  | zero => have := List.eq_nil_of_length_eq_zero h; subst this; rfl
  | succ n ih =>
    have hn : n < xs.length := by omega
    have e : xs = xs.take n ++ [xs[n]] := by
      rw [← List.take_succ_eq_append_getElem hn, List.take_of_length_le (by omega)]
    have hl : (xs.take n).length = n := by simp; omega
    by_cases h0 : xs[n] = 0
    · have e2 : trimL xs = trimL (xs.take n) := by
        conv => lhs; rw [e, h0]
        exact trimL_snoc_zero _
      have h3 := ih _ hl
      have h4 : (trimL (xs.take n)).length ≤ n := by
        have := congrArg List.length h3
        rw [List.length_take] at this; omega
      rw [e2]
      conv => lhs; rw [h3]
      rw [List.take_take, Nat.min_eq_left h4]
    · have e2 : trimL xs = xs := by
        conv => lhs; rw [e]
        rw [trimL_snoc_pos _ _ h0, ← e]
      rw [e2, List.take_length]
theorem length_trimL_le (xs : List Nat) : (trimL xs).length ≤ xs.length := by
  have := congrArg List.length (trimL_prefix xs)
  rw [List.length_take] at this; omega
theorem small_trimL {xs : List Nat} (h : Small xs) : Small (trimL xs) := by
  rw [trimL_prefix]; exact h.take _
theorem trimL_eq {xs : List Nat} (h : Small xs) : trimL xs = limbs (val xs) :=
  val_inj (small_trimL h) (small_limbs _) (norm_trimL xs) (norm_limbs _) (by rw [val_trimL, val_limbs])
theorem eq_limbs {xs : List Nat} (h : Small xs) (n : Norm xs) : xs = limbs (val xs) :=
  val_inj h (small_limbs _) n (norm_limbs _) (by rw [val_limbs])
theorem limbs_of_small {x : Nat} (h : x < W64) (h0 : x ≠ 0) : limbs x = [x] := by
  rw [limbs_pos h0, Nat.mod_eq_of_lt h, Nat.div_eq_of_lt h, limbs_zero]
/-- So many limbs just if below that power. -/
theorem limbs_length_le {n k : Nat} : (limbs n).length ≤ k ↔ n < W64 ^ k := by
  constructor
  · intro h
    have h1 := val_lt (small_limbs n)
    rw [val_limbs] at h1
    exact Nat.lt_of_lt_of_le h1 (Nat.pow_le_pow_right W64_pos h)
  · intro h
    rcases Nat.lt_or_ge k (limbs n).length with hk | hk
    · exfalso
      have hne : limbs n ≠ [] := by intro e; rw [e] at hk; simp at hk
      rcases norm_limbs n with h0 | h0
      · exact hne h0
      · have h2 := val_split (limbs n) ((limbs n).length - 1) (by omega)
        have h3 := val_drop_step (limbs n) ((limbs n).length - 1) (by omega)
        rw [val_limbs] at h2
        have h4 : W64 ^ ((limbs n).length - 1) * 1 ≤ W64 ^ ((limbs n).length - 1) * val ((limbs n).drop ((limbs n).length - 1)) := Nat.mul_le_mul_left _ (by omega)
        have h5 : W64 ^ k ≤ W64 ^ ((limbs n).length - 1) := Nat.pow_le_pow_right W64_pos (by omega)
        omega
    · exact hk
/-- How many limbs. -/
def lc (n : Nat) : Nat := (limbs n).length
theorem lc_le {n k : Nat} : lc n ≤ k ↔ n < W64 ^ k := limbs_length_le
theorem lt_lc (n : Nat) : n < W64 ^ lc n := lc_le.1 (Nat.le_refl _)
theorem lc_zero : lc 0 = 0 := by rw [lc, limbs_zero]; rfl
theorem lc_eq_zero {n : Nat} : lc n = 0 ↔ n = 0 := by
  constructor
  · intro h; exact limbs_eq_nil.1 (List.eq_nil_of_length_eq_zero h)
  · rintro rfl; exact lc_zero
theorem lc_mono {a b : Nat} (h : a ≤ b) : lc a ≤ lc b := lc_le.2 (Nat.lt_of_le_of_lt h (lt_lc b))
theorem lc_mul (a b : Nat) : lc (a * b) ≤ lc a + lc b := by
  rw [lc_le, Nat.pow_add]
  exact Nat.mul_lt_mul'' (lt_lc a) (lt_lc b)
theorem lc_add (a b : Nat) : lc (a + b) ≤ max (lc a) (lc b) + 1 := by
  rw [lc_le]
  have h1 := Nat.lt_of_lt_of_le (lt_lc a) (Nat.pow_le_pow_right W64_pos (Nat.le_max_left (lc a) (lc b)))
  have h2 := Nat.lt_of_lt_of_le (lt_lc b) (Nat.pow_le_pow_right W64_pos (Nat.le_max_right (lc a) (lc b)))
  rw [Nat.pow_succ]
  have h3 := Nat.mul_le_mul_left (W64 ^ max (lc a) (lc b)) W64_ge
  omega
theorem lc_val {xs : List Nat} (h : Small xs) : lc (val xs) ≤ xs.length := lc_le.2 (val_lt h)
theorem lc_limb {x : Nat} (h : x < W64) : lc x ≤ 1 := lc_le.2 (by simpa using h)
/-! ### which is less -/
def cmpN (m n : Nat) : Int := if m < n then -1 else if n < m then 1 else 0
theorem cmpN_lt {m n : Nat} (h : m < n) : cmpN m n = -1 := by unfold cmpN; rw [if_pos h]
theorem cmpN_gt {m n : Nat} (h : n < m) : cmpN m n = 1 := by unfold cmpN; rw [if_neg (by omega), if_pos h]
theorem cmpN_eq {m n : Nat} (h : m = n) : cmpN m n = 0 := by unfold cmpN; rw [if_neg (by omega), if_neg (by omega)]
theorem step_lt (P D : Nat) {x y : Nat} (h : x < y) : P * (x + D) + P ≤ P * (y + D) := by
  have h5 := Nat.mul_le_mul_left P (show x + D + 1 ≤ y + D by omega)
  rwa [Nat.mul_add P (x + D) 1, Nat.mul_one] at h5
theorem val_lt_top {xs ys : List Nat} (h1 : Small xs) (_h2 : Small ys) (hl : xs.length = ys.length) {k : Nat} (hk : k < xs.length) (hd : xs.drop (k + 1) = ys.drop (k + 1)) (hlt : xs.getD k 0 < ys.getD k 0) : val xs < val ys := by
  have h6 := step_lt (W64 ^ k) (W64 * val (ys.drop (k + 1))) hlt
  rw [val_split xs k (by omega), val_split ys k (by omega), val_drop_step xs k hk, val_drop_step ys k (by omega), hd]
  have h3 := val_lt (h1.take k)
  rw [List.length_take, Nat.min_eq_left (by omega)] at h3
  omega
theorem drop_same {xs ys : List Nat} (hl : xs.length = ys.length) {k : Nat} (hk : k < xs.length) (hd : xs.drop (k + 1) = ys.drop (k + 1)) (he : xs.getD k 0 = ys.getD k 0) : xs.drop k = ys.drop k := by
  have e1 : xs.getD k 0 = xs[k] := by simp [hk]
  have e2 : ys.getD k 0 = ys[k] := by simp [show k < ys.length by omega]
  rw [List.drop_eq_getElem_cons hk, List.drop_eq_getElem_cons (show k < ys.length by omega), hd, ← e1, ← e2, he]
theorem lc_lt {m n : Nat} (h : lc m < lc n) : m < n := by
  rcases Nat.lt_or_ge m n with h1 | h1
  · exact h1
  · have := lc_mono h1; omega
theorem drop_set_self (os : List Nat) (k x : Nat) (hk : k < os.length) : (os.set k x).drop k = x :: os.drop (k + 1) := by
  rw [List.drop_eq_getElem_cons (by simpa using hk)]
  simp [List.drop_set_of_lt]
theorem val_drop_set (os : List Nat) (k x : Nat) (hk : k < os.length) : val ((os.set k x).drop k) = x + W64 * val (os.drop (k + 1)) := by
  rw [drop_set_self os k x hk]; rfl
/-! ### how many bits -/
def nbits (n : Nat) : Nat := if n = 0 then 0 else Nat.log2 n + 1
theorem nbits_le {n k : Nat} : nbits n ≤ k ↔ n < 2 ^ k := by
  unfold nbits
  by_cases h : n = 0
  · subst h; exact ⟨fun _ => Nat.pow_pos (by omega), fun _ => by simp⟩
  · rw [if_neg h, ← Nat.log2_lt h]; rfl
theorem lt_nbits (n : Nat) : n < 2 ^ nbits n := nbits_le.1 (Nat.le_refl _)
theorem nbits_pos {n : Nat} (h : n ≠ 0) : 1 ≤ nbits n := by unfold nbits; rw [if_neg h]; omega
theorem pow_le_of_nbits {n : Nat} (h : n ≠ 0) : 2 ^ (nbits n - 1) ≤ n := by
  unfold nbits; rw [if_neg h, Nat.add_sub_cancel]; exact Nat.log2_self_le h
theorem nbits_eq {n k : Nat} (h1 : 2 ^ k ≤ n) (h2 : n < 2 ^ (k + 1)) : nbits n = k + 1 := by
  have h3 := nbits_le.2 h2
  rcases Nat.lt_or_ge k (nbits n) with h | h
  · omega
  · have := nbits_le.1 h; omega
theorem nbits_mono {a b : Nat} (h : a ≤ b) : nbits a ≤ nbits b := nbits_le.2 (Nat.lt_of_le_of_lt h (lt_nbits b))
theorem W64_two : W64 = 2 ^ 64 := by rw [W64_eq]
theorem W64_pow (k : Nat) : W64 ^ k = 2 ^ (64 * k) := by rw [W64_two, ← Nat.pow_mul]
theorem nbits_le_lc (n : Nat) : nbits n ≤ 64 * lc n := by rw [nbits_le, ← W64_pow]; exact lt_lc n
theorem lc_le_nbits {n k : Nat} : lc n ≤ k ↔ nbits n ≤ 64 * k := by rw [lc_le, nbits_le, W64_pow]
theorem nbits_mul_pow {n k : Nat} (h : n ≠ 0) : nbits (n * 2 ^ k) = nbits n + k := by
  have h1 := pow_le_of_nbits h
  have h2 := lt_nbits n
  have h3 := nbits_pos h
  have e := nbits_eq (n := n * 2 ^ k) (k := nbits n - 1 + k) (by rw [Nat.pow_add]; exact Nat.mul_le_mul_right _ h1) (by
    rw [show nbits n - 1 + k + 1 = nbits n + k by omega, Nat.pow_add]; exact Nat.mul_lt_mul_of_pos_right h2 (Nat.pow_pos (by omega)))
  omega
end Go.Proofs.YtjbagikfogejnaaGreatDoor
/- Words for memory: limbs that are read, rows that the call fills, whole numbers behind pointers. -/
namespace Go.Proofs.YtjbagikfogejnaaGreatDoor
open Go.RowKit Go.Deep
theorem block_of_add (a : Addr) (n : Nat) : (a.add n).block = a.block := by unfold Addr.add; split <;> rfl
theorem add_of_add (a : Addr) (i j : Nat) : (a.add i).add j = a.add (i + j) := by
  unfold Addr.add
  by_cases hi : i = 0 <;> by_cases hj : j = 0 <;> simp [hi, hj, Nat.add_assoc]
theorem add_succ (a : Addr) (j : Nat) : a.add (j + 1) = ⟨a.block, a.off + (j + 1), none⟩ := by unfold Addr.add; rw [if_neg (by omega)]
theorem add_plain (g j : Nat) : (⟨g, 0, none⟩ : Addr).add j = ⟨g, j, none⟩ := by
  unfold Addr.add
  split
  · rename_i h; subst h; rfl
  · simp
theorem below_drewN {B : Nat} {a w : World} (h : Below B a w) (n : Nat) : Below B a (w.drewN n) := ⟨h.os, h.tape, h.output, h.size, h.block⟩
/-- A call made behind some steps: what it leaves stands since the first. -/
theorem below_then {B : Nat} {a b c : World} (h : Below B a b) (hB : B ≤ b.heap.size) (k : Below b.heap.size b c) : Below B a c := h.trans (k.mono hB)
theorem grownBy_of_below {w w1 : World} (h : Below w.heap.size w w1) (row : Option Nat) : w.grownBy w1 row := ⟨h.os, h.tape, h.output, h.size, fun i hi _ => h.block i hi⟩
theorem grownBy_trans {w w1 w2 : World} {row : Option Nat} (h : w.grownBy w1 row) (k : w1.grownBy w2 row) : w.grownBy w2 row :=
  ⟨k.os.trans h.os, k.tape.trans h.tape, k.output.trans h.output, Nat.le_trans h.size k.size, fun i hi hn => (k.block i (Nat.lt_of_lt_of_le hi h.size) hn).trans (h.block i hi hn)⟩
/-- What grows by a row that is new since the first world has turned nothing of the first. -/
theorem below_grown {B : Nat} {a b c : World} {g : Nat} (h : Below B a b) (hB : B ≤ b.heap.size) (k : b.grownBy c (some g)) (hg : B ≤ g) : Below B a c :=
  h.trans ⟨k.os, k.tape, k.output, k.size, fun i hi => k.block i (by omega) (fun e => by injection e; omega)⟩
section
variable {P : Program} {f : FuncId} {args : Array Value} {w : World} {a n : Nat} {v : Value}
theorem quiet_left (h : Calls P f args (w.drewN n) fun e w' => e = .returned v ∧ w.drewN n = w') :
    Calls P f args (w.drewN n) fun e w'' => e = .returned v ∧ ∃ m, w'' = w.drewN m :=
  h.mono fun _ _ ⟨he, hm⟩ => ⟨he, n, hm.symm⟩
end
/-! ### limbs that are read -/
/-- At the slice's address A stand the numbers xs, below block B. -/
structure Lim (w : World) (B : Nat) (A : Option Addr) (xs : List Nat) : Prop where
  small : Small xs
  cells : 0 < xs.length → ∃ ad, A = some ad ∧ ad.block < B ∧ ∀ j, j < xs.length → w.cell? (ad.add j) = some (.int .u64 ((xs.getD j 0 : Nat) : Int))
section
variable {w w' : World} {B B' : Nat} {A : Option Addr} {xs : List Nat}
theorem Lim.at_ (h : Lim w B A xs) {k : Nat} (hk : k < xs.length) : ∃ ad, A = some ad ∧ ad.block < B ∧ w.cell? (ad.add k) = some (.int .u64 ((xs.getD k 0 : Nat) : Int)) := by
  obtain ⟨ad, e, hb, hc⟩ := h.cells (by omega)
  exact ⟨ad, e, hb, hc k hk⟩
theorem Lim.nil (w : World) (B : Nat) (A : Option Addr) : Lim w B A [] := ⟨Small.nil, fun h => absurd h (by simp)⟩
theorem Lim.keep (h : Lim w B A xs) (hk : ∀ p : Addr, p.block < B → w'.cell? p = w.cell? p) (hB : B ≤ B') : Lim w' B' A xs :=
  ⟨h.small, fun hn => by
    obtain ⟨ad, e, hb, hc⟩ := h.cells hn
    exact ⟨ad, e, by omega, fun j hj => (hk _ (by rw [block_of_add]; exact hb)).trans (hc j hj)⟩⟩
theorem Lim.more (h : Lim w B A xs) (hB : B ≤ B') : Lim w B' A xs := h.keep (fun _ _ => rfl) hB
theorem Lim.below (h : Lim w B A xs) (hb : Below B w w') : Lim w' B A xs := h.keep (fun _ hp => hb.cell hp) (Nat.le_refl _)
/-- Behind a call. -/
theorem Lim.call (h : Lim w B A xs) (hB : B ≤ w.heap.size) (hb : Below w.heap.size w w') : Lim w' w'.heap.size A xs :=
  h.keep (fun _ hp => hb.cell (by omega)) (Nat.le_trans hB hb.size)
theorem Lim.drewN (h : Lim w B A xs) (n : Nat) : Lim (w.drewN n) B A xs := ⟨h.small, h.cells⟩
theorem Lim.alloc (h : Lim w B A xs) (hB : B ≤ w.heap.size) (o : Obj) : Lim (w.alloc o) B A xs := h.keep (fun p hp => World.cell?_alloc_lt w o p (by omega)) (Nat.le_refl _)
theorem Lim.setCell (h : Lim w B A xs) {p : Addr} (hB : B ≤ p.block) (u : Value) : Lim (w.setCell p u) B A xs :=
  h.keep (fun q hq => World.cell?_setCell_other w p q u (fun e => by subst e; omega)) (Nat.le_refl _)
theorem Lim.take (h : Lim w B A xs) (n : Nat) : Lim w B A (xs.take n) :=
  ⟨h.small.take n, fun hn => by
    rw [List.length_take] at hn
    obtain ⟨ad, e, hb, hc⟩ := h.cells (by omega)
    refine ⟨ad, e, hb, fun j hj => ?_⟩
    rw [List.length_take] at hj
    rw [hc j (by omega)]
    simp [show j < n by omega]⟩
theorem Lim.cut (h : Lim w B A xs) {k cap : Nat} (hc : xs.length ≤ cap) : Lim w B (if cap = k then A else A.map (·.add k)) (xs.drop k) := by
  refine ⟨h.small.drop k, fun hn => ?_⟩
  rw [List.length_drop] at hn
  obtain ⟨ad, rfl, hb, hcell⟩ := h.cells (by omega)
  rw [if_neg (by omega)]
  refine ⟨ad.add k, rfl, by rw [block_of_add]; exact hb, fun j hj => ?_⟩
  rw [List.length_drop] at hj
  rw [add_of_add, hcell _ (by omega)]
  simp
theorem Lim.drop {b o : Nat} (h : Lim w B (some ⟨b, o, none⟩) xs) (k : Nat) : Lim w B (some ⟨b, o + k, none⟩) (xs.drop k) := by
  refine ⟨h.small.drop k, fun hn => ?_⟩
  rw [List.length_drop] at hn
  obtain ⟨ad, e, hb, hcell⟩ := h.cells (by omega)
  injection e with e
  subst e
  refine ⟨_, rfl, hb, fun j hj => ?_⟩
  rw [List.length_drop] at hj
  have h1 := hcell (k + j) (by omega)
  have e1 : (⟨b, o, none⟩ : Addr).add (k + j) = (⟨b, o + k, none⟩ : Addr).add j := by
    have : (⟨b, o + k, none⟩ : Addr) = (⟨b, o, none⟩ : Addr).add k := by
      unfold Addr.add; split
      · rename_i h; subst h; rfl
      · rfl
    rw [this, add_of_add]
  rw [e1] at h1
  rw [h1]
  simp
end
/-! ### a row of limbs that the call fills -/
/-- Block g holds numbers; its first ones are os. -/
structure Row (w : World) (g : Nat) (os : List Nat) : Prop where
  small : Small os
  row : ∃ (t : TypeId) (cs : Array Value), w.heap[g]? = some (.cells cs t (0, 0)) ∧ os.length ≤ cs.size ∧ ∀ i, i < os.length → cs[i]? = some (.int .u64 ((os.getD i 0 : Nat) : Int))
section
variable {w w' : World} {g : Nat} {os : List Nat}
theorem Row.cell (h : Row w g os) {k : Nat} (hk : k < os.length) : w.cell? ⟨g, k, none⟩ = some (.int .u64 ((os.getD k 0 : Nat) : Int)) := by
  obtain ⟨t, cs, hb, _, hc⟩ := h.row
  rw [cell_of_row w g k cs _ (0, 0) hb]
  exact hc k hk
theorem Row.free (h : Row w g os) (k : Nat) : w.frozen? ⟨g, k, none⟩ = false := by
  obtain ⟨t, cs, hb, _, _⟩ := h.row
  simp [World.frozen?, hb]
theorem Row.lt (h : Row w g os) : g < w.heap.size := by
  obtain ⟨t, cs, hb, _, _⟩ := h.row
  exact (Array.getElem?_eq_some_iff.1 hb).1
theorem Row.of_block (h : Row w g os) (e : w'.heap[g]? = w.heap[g]?) : Row w' g os := by
  obtain ⟨t, cs, hb, hs, hc⟩ := h.row
  exact ⟨h.small, t, cs, e.trans hb, hs, hc⟩
theorem Row.below {B : Nat} (h : Row w g os) (hb : Below B w w') (hg : g < B) : Row w' g os := h.of_block (hb.block g hg)
theorem Row.call (h : Row w g os) (hb : Below w.heap.size w w') : Row w' g os := h.of_block (hb.block g h.lt)
theorem Row.alloc (h : Row w g os) (o : Obj) : Row (w.alloc o) g os := h.of_block (Below.heap_alloc w o g h.lt)
theorem Row.far (h : Row w g os) {p : Addr} (hp : g ≠ p.block) (u : Value) : Row (w.setCell p u) g os := h.of_block (Below.heap_setCell w p u g hp)
theorem Row.drewN (h : Row w g os) (n : Nat) : Row (w.drewN n) g os := h.of_block rfl
theorem Row.take (h : Row w g os) (n : Nat) : Row w g (os.take n) := by
  obtain ⟨t, cs, hb, hs, hc⟩ := h.row
  refine ⟨h.small.take n, t, cs, hb, by rw [List.length_take]; omega, fun i hi => ?_⟩
  rw [List.length_take] at hi
  rw [hc i (by omega)]
  simp [show i < n by omega]
theorem Row.set (h : Row w g os) {k x : Nat} (hk : k < os.length) (hx : x < W64) : Row (w.setCell ⟨g, k, none⟩ (.int .u64 (x : Int))) g (os.set k x) := by
  obtain ⟨t, cs, hb, hs, hc⟩ := h.row
  refine ⟨h.small.set k x hx, t, cs.setIfInBounds k (.int .u64 (x : Int)), ?_, by simpa using hs, fun i hi => ?_⟩
  · simp [World.setCell, Array.getElem?_modify, hb]
  · rw [List.length_set] at hi
    rw [Array.getElem?_setIfInBounds]
    by_cases e : k = i
    · subst e
      have : k < cs.size := by omega
      simp [this, hk]
    · rw [if_neg e, hc i hi]
      simp [e]
/-- New, all noughts. -/
theorem Row.made (w : World) (n : Nat) {t : TypeId} : Row (w.alloc (.cells (madeCells #[.int .u64 0] n) t)) w.heap.size (List.replicate n 0) := by
  refine ⟨Small.zeros n, _, _, heap_alloc_new w _, by simp [size_madeCells], fun i hi => ?_⟩
  rw [List.length_replicate] at hi
  rw [← Array.getElem?_toList, toList_madeCells_one]
  simp [hi]
theorem Row.lim (h : Row w g os) {B : Nat} (hg : g < B) : Lim w B (some ⟨g, 0, none⟩) os :=
  ⟨h.small, fun _ => ⟨_, rfl, hg, fun j hj => by rw [add_plain]; exact h.cell hj⟩⟩
end
/-! ### what is appended to -/
def nums (xs : List Nat) : List Value := xs.map fun x : Nat => .int .u64 (x : Int)
theorem nums_length (xs : List Nat) : (nums xs).length = xs.length := by simp [nums]
theorem nums_append (xs ys : List Nat) : nums (xs ++ ys) = nums xs ++ nums ys := by simp [nums]
/-- The slice value v is nil or the call's own (from block base on), and holds xs. -/
structure Own (w : World) (base : Nat) (v : Value) (xs : List Nat) : Prop where
  small : Small xs
  own : w.ownsRow base 41 1 v xs.length (nums xs)
theorem Own.nil (w : World) (base : Nat) : Own w base (.slice none 0 0) [] := ⟨Small.nil, by simp [nums], .inl ⟨rfl, rfl⟩⟩
theorem Own.below {w w' : World} {base : Nat} {v : Value} {xs : List Nat} (h : Own w base v xs) (hb : Below w.heap.size w w') : Own w' base v xs :=
  ⟨h.small, h.own.kept (grownBy_of_below hb none) (by cases v.ownBlock <;> simp)⟩
theorem Own.alloc {w : World} {base : Nat} {v : Value} {xs : List Nat} (h : Own w base v xs) (o : Obj) : Own (w.alloc o) base v xs := h.below ((Below.refl _ _).alloc (Nat.le_refl _) o)
theorem Own.form {w : World} {base : Nat} {v : Value} {xs : List Nat} (h : Own w base v xs) : ∃ A c, v = .slice A xs.length c ∧ xs.length ≤ c ∧ Lim w w.heap.size A xs ∧ (xs = [] ∨ ∃ g, A = some ⟨g, 0, none⟩ ∧ base ≤ g ∧ Row w g xs) := by
  have hs := h.small
  rcases h.own.2 with ⟨rfl, hx⟩ | ⟨g, cap, cur, rfl, hg, hh, hnc, h63, hcap, hpre⟩
  · have e : xs = [] := by simpa [nums] using hx
    subst e
    exact ⟨none, 0, rfl, by simp, Lim.nil _ _ _, .inl rfl⟩
  · have hcells : ∀ i, i < xs.length → w.cell? ⟨g, i, none⟩ = some (.int .u64 ((xs.getD i 0 : Nat) : Int)) := fun i hi => by
      have h1 := h.own.cells (g := g) rfl i (.int .u64 ((xs.getD i 0 : Nat) : Int)) (by simp [nums, hi])
      rwa [add_plain] at h1
    refine ⟨_, cap, rfl, hnc, ⟨hs, fun _ => ⟨_, rfl, (Array.getElem?_eq_some_iff.1 hh).1, fun j hj => by rw [add_plain]; exact hcells j hj⟩⟩, .inr ⟨g, rfl, hg, hs, _, cur, hh, ?_, fun i hi => ?_⟩⟩
    · rcases Nat.lt_or_ge cur.size xs.length with hlt | hge
      · exfalso
        have h1 := hcells cur.size hlt
        rw [cell_of_row w g _ cur _ (0, 0) hh] at h1
        simp at h1
      · exact hge
    · have h1 := hcells i hi
      rwa [cell_of_row w g i cur _ (0, 0) hh] at h1
theorem Own.prefix {w : World} {base : Nat} {A : Option Addr} {c : Nat} {xs : List Nat} (h : Own w base (.slice A xs.length c) xs) {n : Nat} (hn : n ≤ xs.length) : Own w base (.slice A n c) (xs.take n) := by
  have hl : (xs.take n).length = n := by rw [List.length_take]; omega
  refine ⟨h.small.take n, by simp [nums], ?_⟩
  rw [hl]
  rcases h.own.2 with ⟨hv, hx⟩ | ⟨g, cap, cur, hv, hg, hh, hnc, h63, hcap, hpre⟩
  · have : n = 0 := by omega
    subst this
    injection hv with h1 h2 h3
    exact .inl ⟨by rw [h1, h3], rfl⟩
  · injection hv with h1 h2 h3
    refine .inr ⟨g, cap, cur, by rw [h1, h3], hg, hh, by omega, h63, hcap, ?_⟩
    rw [Nat.mul_one] at hpre ⊢
    have := congrArg (List.take n) hpre
    rw [List.take_take, Nat.min_eq_left hn] at this
    rw [this]; simp [nums]
theorem Own.trim {w : World} {base : Nat} {A : Option Addr} {c : Nat} {xs : List Nat} (h : Own w base (.slice A xs.length c) xs) : Own w base (.slice A (limbs (val xs)).length c) (limbs (val xs)) := by
  have h1 := length_trimL_le xs
  have h2 := h.prefix h1
  rw [← trimL_prefix, trimL_eq h.small] at h2
  exact h2
theorem info_u64 : (Tryz.prog.info? 41).map (fun i => (i.zero, i.size, i.bytes)) = some (some (.int .u64 0), 1, 8) := by kernel_rfl
section
variable {ops : Array Oper} {rest : List Oper} {o : Oper} {a : Act} {Q : Exit → Act → World → Prop}
/-- append(v, src...): behind 'at_builtin'. -/
theorem append_any {w0 W : World} (base : Nat) (hgd : o.guard = none) (s x : Operand)
    (ho : o.op = .call { callee := .builtin .append, args := #[s, x], argTypes := #[22, 22] })
    (v : Value) (xs : List Nat) (ad : Addr) (m c : Nat) (ys : List Nat) (hs : a.eval s = v) (hx : a.eval x = .slice (some ad) m c) (hm : m = ys.length)
    (hcell : ∀ j, j < ys.length → W.cell? (ad.add j) = some (.int .u64 ((ys.getD j 0 : Nat) : Int))) (hsm : Small ys)
    (HO : Own W base v xs) (HB : Below base w0 W) (hbase : base ≤ W.heap.size) (hl : xs.length + ys.length ≤ 17592186044416)
    (h : ∀ v1 w1, Own w1 base v1 (xs ++ ys) → Below base w0 w1 → W.grownBy w1 v.ownBlock → (v1.ownBlock = v.ownBlock ∨ v1.ownBlock = some W.heap.size) → wpList Tryz.prog ops Q rest (a.put o.dst v1) w1) :
    wpList Tryz.prog ops Q (o :: rest) a W := by
  obtain ⟨i0, hi, hz0, hz1, hz2⟩ := info_parts info_u64
  subst hm
  refine wpList_append_own_at W hgd s x 22 ho base 41 i0 (.int .u64 0) 1 8 Tryz.underlying22 hi hz0 hz1 hz2 rfl (by omega) v xs.length (nums xs) hs HO.own ad ys.length c (nums ys) hx (by simp [nums])
    (fun j u hu => ?_) (fun u hu => ?_) (by simp only [maxLen]; omega) (by omega) hbase ?_
  · have hj : j < ys.length := by
      have := (List.getElem?_eq_some_iff.1 hu).1
      simpa [nums] using this
    rw [hcell j hj, ← hu]
    simp [nums, hj]
  · obtain ⟨y, _, rfl⟩ := List.mem_map.1 hu
    rfl
  · intro v1 w1 hown hg _ hat
    refine h v1 w1 ⟨HO.small.append hsm, by rw [List.length_append, nums_append]; exact hown⟩ (HB.grown hg hbase fun k hk => ?_) hg hat
    rcases HO.own.2 with ⟨rfl, _⟩ | ⟨g, cap, cur, rfl, hg', _⟩
    · simp [Value.ownBlock] at hk
    · simp only [Value.ownBlock, Option.some.injEq] at hk
      omega
theorem run_append_of_nil (W : World) (base : Nat) (t ty e : TypeId) (i : TypeInfo) (size : Nat) (ht : Tryz.prog.underlying t = some (.slice e)) (hi : Tryz.prog.info? e = some i)
    (v : Value) (n : Nat) (xs : List Value) (hown : W.ownsRow base e size v n xs) (c : Nat) : (Builtin.append_ #[t, t] ty #[v, .slice none 0 c]).run Tryz.prog W = .ok v W := by
  rcases hown.2 with ⟨rfl, rfl⟩ | ⟨g, cap, cur, rfl, _, _, hnc, _⟩
  · simp [Builtin.append_, run_underlying ht, sizeOf, typeInfo, hi, Builtin.lenOf, Builtin.firstCells]
  · simp [Builtin.append_, run_underlying ht, sizeOf, typeInfo, hi, Builtin.lenOf, Builtin.firstCells, hnc, storeCells]
/-- append(v, src...), the source any slice that is read. -/
theorem append_lim {w0 W : World} {B : Nat} (base : Nat) (hgd : o.guard = none) (s x : Operand)
    (ho : o.op = .call { callee := .builtin .append, args := #[s, x], argTypes := #[22, 22] })
    (v : Value) (xs : List Nat) (A : Option Addr) (m c : Nat) (ys : List Nat) (hs : a.eval s = v) (hx : a.eval x = .slice A m c) (hm : m = ys.length)
    (hlim : Lim W B A ys)
    (HO : Own W base v xs) (HB : Below base w0 W) (hbase : base ≤ W.heap.size) (hl : xs.length + ys.length ≤ 17592186044416)
    (h : ∀ v1 w1, Own w1 base v1 (xs ++ ys) → Below base w0 w1 → W.grownBy w1 v.ownBlock → (v1.ownBlock = v.ownBlock ∨ v1.ownBlock = some W.heap.size) → wpList Tryz.prog ops Q rest (a.put o.dst v1) w1) :
    wpList Tryz.prog ops Q (o :: rest) a W := by
  cases A with
  | some ad =>
    refine append_any base hgd s x ho v xs ad m c ys hs hx hm (fun j hj => ?_) hlim.small HO HB hbase hl h
    obtain ⟨ad', e, _, hc⟩ := hlim.at_ hj
    injection e with e
    subst e
    exact hc
  | none =>
    have hy : ys = [] := by
      rcases Nat.eq_zero_or_pos ys.length with h0 | h0
      · exact List.eq_nil_of_length_eq_zero h0
      · obtain ⟨ad, e, _⟩ := hlim.cells h0
        cases e
    subst hy
    subst hm
    obtain ⟨i0, hi, hz0, hz1, hz2⟩ := info_parts info_u64
    have hrun := run_append_of_nil W base 22 o.type 41 i0 1 Tryz.underlying22 hi v xs.length (nums xs) HO.own c
    refine wpList_plain hgd fun K hK => ?_
    unfold Oper.wp execOp
    simp only [ho, resolve, invoke, builtin, Sem.run_bind, Sem.run_pure, Result.andThen_ok, List.map_toArray, List.map_cons, List.map_nil, hs, hx, List.length_nil, hrun]
    exact hK _ _ (h v W (by rw [List.append_nil]; exact HO) HB (World.grownBy.refl W _) (.inl rfl))
/-- append(v, y): the goal's world is 'W.alloc' of the variadic's box. -/
theorem append_one {w0 W : World} (base : Nat) (hgd : o.guard = none) (s x : Operand)
    (ho : o.op = .call { callee := .builtin .append, args := #[s, x], argTypes := #[22, 22] })
    (v : Value) (xs : List Nat) (y : Nat) (hs : a.eval s = v) (hx : a.eval x = .slice (some ⟨W.heap.size, 0, none⟩) 1 1) (hy : y < W64)
    (HO : Own W base v xs) (HB : Below base w0 W) (hbase : base ≤ W.heap.size) (hl : xs.length + 1 ≤ 17592186044416)
    (h : ∀ v1 w1, Own w1 base v1 (xs ++ [y]) → Below base w0 w1 → W.grownBy w1 v.ownBlock → wpList Tryz.prog ops Q rest (a.put o.dst v1) w1) :
    wpList Tryz.prog ops Q (o :: rest) a (W.alloc (.cells #[.int .u64 (y : Int)] 41)) := by
  refine append_any (w0 := w0) base hgd s x ho v xs ⟨W.heap.size, 0, none⟩ 1 1 [y] hs hx rfl (fun j hj => ?_) (Small.one hy) (HO.alloc _) (HB.alloc hbase _) (by simp; omega) (by simpa using hl) ?_
  · have e : j = 0 := by simpa using hj
    subst e
    rw [add_plain, cell_of_row _ _ _ _ _ (0, 0) (heap_alloc_new W _)]
    rfl
  · intro v1 w1 h1 h2 h3 _
    exact h v1 w1 h1 h2 (grownBy_trans ((grownBy_of_below ((Below.refl _ W).alloc (Nat.le_refl _) _) _)) h3)
end
theorem Own.made (W : World) (base n c : Nat) (hb : base ≤ W.heap.size) (hn : n ≤ c) (hc : c ≤ 35184372088832) : Own (W.alloc (.cells (madeCells #[.int .u64 0] c) 41)) base (.slice (some ⟨W.heap.size, 0, none⟩) n c) (List.replicate n 0) := by
  refine ⟨Small.zeros n, by simp [nums], .inr ⟨W.heap.size, c, _, by simp, hb, heap_alloc_new W _, by simpa using hn, by simp only [maxLen]; omega, by simp [size_madeCells], ?_⟩⟩
  rw [toList_madeCells_one]
  simp [nums, Nat.min_eq_left hn]
/-- make([]uint64, n) -/
theorem make_limbs (n : Nat) (h : n ≤ 35184372088832) : ∀ W : World, (Instr.makeSlice 22 (.int .i64 (n : Int)) (.int .i64 (n : Int))).run Tryz.prog W = .ok (.slice (some ⟨W.heap.size, 0, none⟩) n n) (W.alloc (.cells (madeCells #[.int .u64 0] n) 41)) :=
  fun W => run_make_row' (P := Tryz.prog) 22 41 (.int .u64 0) 8 Tryz.underlying22 info_u64 rfl .i64 .i64 n (by omega) (by omega) W
theorem make_limbs_succ (n : Nat) (h : n < 35184372088832) : ∀ W : World, (Instr.makeSlice 22 (.int .i64 ((n : Int) + 1)) (.int .i64 ((n : Int) + 1))).run Tryz.prog W = .ok (.slice (some ⟨W.heap.size, 0, none⟩) (n + 1) (n + 1)) (W.alloc (.cells (madeCells #[.int .u64 0] (n + 1)) 41)) := by
  have := make_limbs (n + 1) (by omega)
  rwa [Int.natCast_add, Int.natCast_one] at this
/-! ### math/bits' adding and taking away -/
def addLo (x y c : Nat) : Nat := (x + y + c) % W64
def addHi (x y c : Nat) : Nat := (x + y + c) / W64
def subLo (x y b : Nat) : Nat := (x + W64 - y - b) % W64
def subHi (x y b : Nat) : Nat := if x < y + b then 1 else 0
theorem add_split (x y c : Nat) : addLo x y c + W64 * addHi x y c = x + y + c := Nat.mod_add_div _ _
theorem addLo_lt (x y c : Nat) : addLo x y c < W64 := Nat.mod_lt _ W64_pos
theorem addHi_le {x y c : Nat} (hx : x < W64) (hy : y < W64) (hc : c ≤ 1) : addHi x y c ≤ 1 := by
  have : addHi x y c < 2 := Nat.div_lt_of_lt_mul (by omega)
  omega
theorem sub_split {x y b : Nat} (hx : x < W64) (hy : y < W64) (hb : b ≤ 1) : subLo x y b + y + b = x + W64 * subHi x y b := by
  unfold subLo subHi
  split
  · rw [Nat.mod_eq_of_lt (by omega)]; omega
  · rw [show x + W64 - y - b = (x - y - b) + W64 by omega, Nat.add_mod_right, Nat.mod_eq_of_lt (by omega)]; omega
theorem subLo_lt (x y b : Nat) : subLo x y b < W64 := Nat.mod_lt _ W64_pos
theorem subHi_le (x y b : Nat) : subHi x y b ≤ 1 := by unfold subHi; split <;> omega
theorem add64_run (x y c : Nat) (hc : c ≤ 1) (w : World) :
    (callFunc 96 #[.int .u64 x, .int .u64 y, .int .u64 c]).run Tryz.prog w = .ok (.value (.tuple #[.int .u64 ((addLo x y c : Nat) : Int), .int .u64 ((addHi x y c : Nat) : Int)])) w := by
  rw [run_callFunc_extern Tryz.func96 (by kernel_rfl) (by kernel_rfl) (by kernel_rfl) (e := add64Entry) (by kernel_rfl), run_add64 x y c (by omega) (by omega) (by omega) (by omega)]
  simp only [Result.andThen, addLo, addHi, W64_eq]
  congr 5 <;> omega
theorem add64_run0 (x y : Nat) (w : World) :
    (callFunc 96 #[.int .u64 x, .int .u64 y, .int .u64 0]).run Tryz.prog w = .ok (.value (.tuple #[.int .u64 ((addLo x y 0 : Nat) : Int), .int .u64 ((addHi x y 0 : Nat) : Int)])) w := by
  have h := add64_run x y 0 (by omega) w
  rwa [Int.natCast_zero] at h
theorem sub64_run (x y b : Nat) (hb : b ≤ 1) (w : World) :
    (callFunc 97 #[.int .u64 x, .int .u64 y, .int .u64 b]).run Tryz.prog w = .ok (.value (.tuple #[.int .u64 ((subLo x y b : Nat) : Int), .int .u64 ((subHi x y b : Nat) : Int)])) w := by
  rw [run_callFunc_extern Tryz.func97 (by kernel_rfl) (by kernel_rfl) (by kernel_rfl) (e := sub64Entry) (by kernel_rfl), run_sub64 x y b hb]
  simp only [Result.andThen, subLo, subHi, W64_eq]
end Go.Proofs.YtjbagikfogejnaaGreatDoor
/- The contracts of the kit's shelf, laid at this dump by the kit's own tools, in plain words. -/
namespace Go.Proofs.YtjbagikfogejnaaGreatDoor
open Go.Shelf
def Tryz.lays128_ren : Go.Shelf.Ren := ⟨fun | 128 => 140 | n => n, fun | 51 => 147 | 3 => 3 | 4 => 4 | 46 => 118 | 5 => 5 | 9 => 9 | n => n, fun | n => n⟩
def Tryz.lays125_ren : Go.Shelf.Ren := ⟨fun | 125 => 99 | 128 => 140 | 129 => 141 | n => n, fun | 46 => 118 | 3 => 3 | 51 => 147 | 53 => 41 | 4 => 4 | 5 => 5 | 9 => 9 | n => n, fun | n => n⟩
def Tryz.lays134_ren : Go.Shelf.Ren := ⟨fun | 134 => 139 | 129 => 141 | n => n, fun | 53 => 41 | 3 => 3 | 4 => 4 | 46 => 118 | 5 => 5 | 9 => 9 | n => n, fun | n => n⟩
theorem Tryz.lays134 : Go.Proofs.Lays.n134 Tryz.prog Tryz.lays134_ren := {
  mixed := by kernel_rfl
  f129 := Tryz.func141.trans (congrArg some (by kernel_rfl))
  f134 := Tryz.func139.trans (congrArg some (by kernel_rfl))
  t3 := Tryz.underlying3
  a3 := Tryz.isAgg3
  z3 := Tryz.sizeOf3
  v3 := Tryz.zeroValue3
  t4 := Tryz.underlying4
  a4 := Tryz.isAgg4
  z4 := Tryz.sizeOf4
  v4 := Tryz.zeroValue4
  t5 := Tryz.underlying5
  a5 := Tryz.isAgg5
  z5 := Tryz.sizeOf5
  v5 := Tryz.zeroValue5
  t9 := Tryz.underlying9
  a9 := Tryz.isAgg9
  z9 := Tryz.sizeOf9
  v9 := Tryz.zeroValue9
  t46 := Tryz.underlying118
  a46 := Tryz.isAgg118
  z46 := Tryz.sizeOf118
  v46 := Tryz.zeroValue118
  t53 := Tryz.underlying41
  a53 := Tryz.isAgg41
  z53 := Tryz.sizeOf41
  v53 := Tryz.zeroValue41 }
theorem Tryz.bits_LeadingZeros64 (x : Int) (w : World) (h0 : 0 ≤ x) (h1 : x ≤ 18446744073709551615) :
    Calls Tryz.prog 139 #[.int .u64 x] w fun e w' => e = .returned (.int .i64 (64 - (Lib.bitLen x.toNat : Int))) ∧ w' = w := Any.bits_LeadingZeros64 Tryz.lays134 x w h0 h1
def Tryz.lays129_ren : Go.Shelf.Ren := ⟨fun | 129 => 141 | n => n, fun | 53 => 41 | 3 => 3 | 4 => 4 | 46 => 118 | 5 => 5 | 9 => 9 | n => n, fun | n => n⟩
theorem Tryz.lays129 : Go.Proofs.Lays.n129 Tryz.prog Tryz.lays129_ren := {
  mixed := by kernel_rfl
  f129 := Tryz.func141.trans (congrArg some (by kernel_rfl))
  t3 := Tryz.underlying3
  a3 := Tryz.isAgg3
  z3 := Tryz.sizeOf3
  v3 := Tryz.zeroValue3
  t4 := Tryz.underlying4
  a4 := Tryz.isAgg4
  z4 := Tryz.sizeOf4
  v4 := Tryz.zeroValue4
  t5 := Tryz.underlying5
  a5 := Tryz.isAgg5
  z5 := Tryz.sizeOf5
  v5 := Tryz.zeroValue5
  t9 := Tryz.underlying9
  a9 := Tryz.isAgg9
  z9 := Tryz.sizeOf9
  v9 := Tryz.zeroValue9
  t46 := Tryz.underlying118
  a46 := Tryz.isAgg118
  z46 := Tryz.sizeOf118
  v46 := Tryz.zeroValue118
  t53 := Tryz.underlying41
  a53 := Tryz.isAgg41
  z53 := Tryz.sizeOf41
  v53 := Tryz.zeroValue41 }
theorem Tryz.bits_Len64 (x : Int) (w : World) (h0 : 0 ≤ x) (h1 : x ≤ 18446744073709551615) :
    Calls Tryz.prog 141 #[.int .u64 x] w fun e w' => e = .returned (.int .i64 (Lib.bitLen x.toNat)) ∧ w' = w := Any.bits_Len64 Tryz.lays129 x w h0 h1
def Tryz.lays264_ren : Go.Shelf.Ren := ⟨fun | 264 => 170 | n => n, fun | 53 => 41 | 46 => 118 | n => n, fun | n => n⟩
theorem Tryz.lays264 : Go.Proofs.Lays.n264 Tryz.prog Tryz.lays264_ren := {
  mixed := by kernel_rfl
  f264 := Tryz.func170.trans (congrArg some (by kernel_rfl))
  t46 := Tryz.underlying118
  a46 := Tryz.isAgg118
  z46 := Tryz.sizeOf118
  v46 := Tryz.zeroValue118
  t53 := Tryz.underlying41
  a53 := Tryz.isAgg41
  z53 := Tryz.sizeOf41
  v53 := Tryz.zeroValue41 }
open Go.RowKit Go.Lib in
theorem Tryz.bits_Mul64 (x y : Nat) (hx : x < 18446744073709551616) (hy : y < 18446744073709551616) (w : World) :
    Calls Tryz.prog 170 #[.int .u64 x, .int .u64 y] w fun e w' => e = .returned (.tuple #[.int .u64 ((x * y / 18446744073709551616 : Nat) : Int), .int .u64 ((x * y % 18446744073709551616 : Nat) : Int)]) ∧ w' = w := Any.bits_Mul64 Tryz.lays264 x y hx hy w
end Go.Proofs.YtjbagikfogejnaaGreatDoor
/- math/bits: the contracts of Mul64, Len64, LeadingZeros64, Len. -/
namespace Go.Proofs.YtjbagikfogejnaaGreatDoor
open Go.RowKit Go.Deep
def mulHi (x y : Nat) : Nat := x * y / W64
def mulLo (x y : Nat) : Nat := x * y % W64
theorem mul_split (x y : Nat) : mulLo x y + W64 * mulHi x y = x * y := Nat.mod_add_div _ _
theorem mulLo_lt (x y : Nat) : mulLo x y < W64 := Nat.mod_lt _ W64_pos
theorem bits_mul64 (x y : Nat) (hx : x < W64) (hy : y < W64) (w : World) :
    Calls Tryz.prog 170 #[.int .u64 x, .int .u64 y] w fun e w' => e = .returned (.tuple #[.int .u64 ((mulHi x y : Nat) : Int), .int .u64 ((mulLo x y : Nat) : Int)]) ∧ w = w' := by
  unfold mulHi mulLo
  rw [W64_eq] at *
  exact (Tryz.bits_Mul64 x y hx hy w).mono fun _ _ h => ⟨h.1, h.2.symm⟩
/-- How many bits. -/
def bitLen (x : Nat) : Nat := Lib.bitLen x
theorem bitLen_le64 {x : Nat} (hx : x < W64) : bitLen x ≤ 64 := Lib.bitLen_le x 64 (by omega) (by rw [W64_eq] at hx; exact hx)
theorem bitLen_spec (x : Nat) (hx : x < 2 ^ 64) : x < 2 ^ bitLen x ∧ (x ≠ 0 → 2 ^ bitLen x ≤ 2 * x) := by
  induction x using Nat.strongRecOn with
  | _ x ih =>
    by_cases h0 : x = 0
    · subst h0; exact ⟨by decide, fun h => absurd rfl h⟩
    · have e : bitLen x = 1 + bitLen (x / 2) := Lib.bitLen_half x h0 hx
      obtain ⟨h1, h2⟩ := ih (x / 2) (by omega) (by omega)
      rw [e, Nat.add_comm, Nat.pow_succ]
      refine ⟨by omega, fun _ => ?_⟩
      by_cases h3 : x / 2 = 0
      · have e0 : bitLen (x / 2) = 0 := by rw [h3]; decide
        rw [e0]; omega
      · have := h2 h3; omega
theorem bitLen_pos {x : Nat} (hx : x < 2 ^ 64) (h0 : x ≠ 0) : 1 ≤ bitLen x := by
  have h := (bitLen_spec x hx).1
  rcases Nat.eq_zero_or_pos (bitLen x) with h1 | h1
  · rw [h1] at h; omega
  · exact h1
/-- A limb moved up till its highest bit is set. -/
theorem lifted_ge {y : Nat} (hy : y < W64) (h0 : y ≠ 0) : y * 2 ^ (64 - bitLen y) < W64 ∧ W64 ≤ 2 * (y * 2 ^ (64 - bitLen y)) ∧ 64 - bitLen y ≤ 63 := by
  have hy' : y < 2 ^ 64 := by rw [W64_eq] at hy; exact hy
  obtain ⟨h1, h2⟩ := bitLen_spec y hy'
  have h2 := h2 h0
  have hl := bitLen_le64 hy
  have hp := bitLen_pos hy' h0
  have e : W64 = 2 ^ bitLen y * 2 ^ (64 - bitLen y) := by rw [← Nat.pow_add, show bitLen y + (64 - bitLen y) = 64 by omega, W64_eq]
  have hpos : 0 < 2 ^ (64 - bitLen y) := Nat.pow_pos (by omega)
  refine ⟨?_, ?_, by omega⟩
  · rw [e]; exact Nat.mul_lt_mul_of_pos_right h1 hpos
  · rw [e, ← Nat.mul_assoc]; exact Nat.mul_le_mul_right _ h2
theorem lt_W64 {x : Nat} (hx : x < W64) : (x : Int) ≤ 18446744073709551615 := by rw [W64_eq] at hx; omega
theorem bits_len64 (x : Nat) (hx : x < W64) (w : World) : Calls Tryz.prog 141 #[.int .u64 x] w fun e w' => e = .returned (.int .i64 (bitLen x : Nat)) ∧ w = w' :=
  (Tryz.bits_Len64 x w (by omega) (lt_W64 hx)).mono fun _ _ h => ⟨by rw [h.1, Int.toNat_natCast]; rfl, h.2.symm⟩
theorem bits_lz64 (x : Nat) (hx : x < W64) (w : World) : Calls Tryz.prog 139 #[.int .u64 x] w fun e w' => e = .returned (.int .i64 ((64 - bitLen x : Nat) : Int)) ∧ w = w' :=
  (Tryz.bits_LeadingZeros64 x w (by omega) (lt_W64 hx)).mono fun _ _ h => ⟨by
    rw [h.1, Int.toNat_natCast, show ((64 - bitLen x : Nat) : Int) = 64 - (bitLen x : Int) by have := bitLen_le64 hx; omega]; rfl, h.2.symm⟩
end Go.Proofs.YtjbagikfogejnaaGreatDoor
/- The contracts of package big's sizes (nat.go): what each leaves in memory, in plain numbers. -/
namespace Go.Proofs.YtjbagikfogejnaaGreatDoor
open Go.RowKit Go.Deep
theorem Lim.trim {w : World} {B : Nat} {A : Option Addr} {xs : List Nat} (h : Lim w B A xs) : Lim w B A (limbs (val xs)) := by
  rw [← trimL_eq h.small, trimL_prefix]
  exact h.take _
theorem limbs_val_le {xs : List Nat} (h : Small xs) : (limbs (val xs)).length ≤ xs.length := lc_val h
/-! ### plus, less -/
end Go.Proofs.YtjbagikfogejnaaGreatDoor
/- The contracts of package big's sizes (nat.go), on: products. -/
namespace Go.Proofs.YtjbagikfogejnaaGreatDoor
open Go.RowKit Go.Deep
theorem limb_mul_bound {x y o c s d : Nat} (hx : x < W64) (hy : y < W64) (ho : o < W64) (hc : c < W64) (h : s + W64 * d = x * y + o + c) : d < W64 := by
  have hp := W64_ge
  rcases Nat.lt_or_ge d W64 with hd | hd
  · exact hd
  · exfalso
    have h1 : x * y ≤ (W64 - 1) * (W64 - 1) := Nat.mul_le_mul (by omega) (by omega)
    have h2 : W64 * W64 ≤ W64 * d := Nat.mul_le_mul_left _ hd
    have h3 : (W64 - 1) * (W64 - 1) + 2 * (W64 - 1) + 1 = W64 * W64 := by
      obtain ⟨v, hv⟩ : ∃ v, W64 = v + 1 := ⟨W64 - 1, by omega⟩
      rw [hv]; simp only [Nat.add_sub_cancel]; grind
    omega
end Go.Proofs.YtjbagikfogejnaaGreatDoor
/- math/bits.Div64: two limbs over one. -/
namespace Go.Proofs.YtjbagikfogejnaaGreatDoor
open Go.RowKit Go.Deep
/-! ### one digit of 32 bits -/
/-- q is not too small, and what is left fits it. (Y = 2^32 y1 + y0.) -/
def Dig (n d Y y1 q r : Nat) : Prop := q * y1 + r = n ∧ (n * 4294967296 + d) / Y ≤ q ∧ q ≤ 4294967297
theorem dig_split {Y y1 y0 : Nat} (hY : Y = 4294967296 * y1 + y0) (q r n : Nat) (h : q * y1 + r = n) : q * Y + 4294967296 * r = n * 4294967296 + q * y0 := by
  rw [hY, ← h]; grind
theorem dig_lt {n d Y : Nat} (hn : n < Y) (hd : d < 4294967296) : (n * 4294967296 + d) / Y < 4294967296 := by
  refine Nat.div_lt_of_lt_mul ?_
  have := Nat.mul_le_mul_right 4294967296 (show n + 1 ≤ Y from hn)
  omega
theorem dig_start {n d Y y1 y0 : Nat} (hYe : Y = 4294967296 * y1 + y0) (hy0 : y0 < 4294967296) (hn : n < Y) (hY : 9223372036854775808 ≤ Y) (hd : d < 4294967296) : Dig n d Y y1 (n / y1) (n % y1) := by
  have hy1 : 2147483648 ≤ y1 := by omega
  refine ⟨by rw [Nat.mul_comm]; exact Nat.div_add_mod _ _, ?_, ?_⟩
  · refine (Nat.le_div_iff_mul_le (by omega)).2 ?_
    have h1 := Nat.div_mul_le_self (n * 4294967296 + d) Y
    generalize (n * 4294967296 + d) / Y = Q at *
    have h2 : Q * (4294967296 * y1) ≤ Q * Y := Nat.mul_le_mul_left Q (by omega)
    have h3 : Q * (4294967296 * y1) = 4294967296 * (Q * y1) := by grind
    omega
  · exact Nat.le_of_lt_succ (Nat.div_lt_of_lt_mul (by omega))
/-- A guess that is too great: one less. -/
theorem dig_down {n d Y y1 y0 q r : Nat} (hYe : Y = 4294967296 * y1 + y0) (hn : n < Y) (hd : d < 4294967296) (h : Dig n d Y y1 q r) (hq : 4294967296 ≤ q ∨ 4294967296 * r + d < q * y0) : Dig n d Y y1 (q - 1) (r + y1) ∧ q - 1 ≤ 4294967296 ∧ 1 ≤ q := by
  obtain ⟨h1, h2, h3⟩ := h
  have hlt := dig_lt hn hd
  have hs := dig_split hYe q r n h1
  have hQ : (n * 4294967296 + d) / Y < q := by
    rcases hq with hq | hq
    · omega
    · refine Nat.div_lt_of_lt_mul ?_
      rw [Nat.mul_comm Y q]; omega
  clear hs hlt
  unfold Dig
  generalize (n * 4294967296 + d) / Y = Q at *
  refine ⟨⟨?_, by omega, by omega⟩, by omega, by omega⟩
  obtain ⟨p, rfl⟩ : ∃ p, q = p + 1 := ⟨q - 1, by omega⟩
  rw [Nat.add_sub_cancel, ← h1]; grind
theorem dig_done {n d Y y1 y0 q r : Nat} (hYe : Y = 4294967296 * y1 + y0) (h : Dig n d Y y1 q r) (hle : q * y0 ≤ 4294967296 * r + d) (hY : 0 < Y) : q = (n * 4294967296 + d) / Y := by
  obtain ⟨h1, h2, h3⟩ := h
  have hs := dig_split hYe q r n h1
  refine Nat.le_antisymm ?_ h2
  refine (Nat.le_div_iff_mul_le hY).2 ?_
  omega
theorem dig_done' {n d Y y1 y0 q r : Nat} (hYe : Y = 4294967296 * y1 + y0) (hy0 : y0 < 4294967296) (h : Dig n d Y y1 q r) (hq : q ≤ 4294967296) (hr : 4294967296 ≤ r) (hY : 0 < Y) : q = (n * 4294967296 + d) / Y := by
  refine dig_done hYe h ?_ hY
  have h1 : q * y0 ≤ 4294967296 * 4294967296 := Nat.mul_le_mul hq (by omega)
  omega
def Half (r : Nat) : Prop := r < 4294967296
/-! ### both digits -/
theorem div_two' (B W : Nat) (hW : W = B * B) {U V Y : Nat} (hY : 0 < Y) :
    ((U * B + V / B) / Y) * B + (((U * B + V / B) % Y) * B + V % B) / Y = (U * W + V) / Y ∧
    (((U * B + V / B) % Y) * B + V % B) % Y = (U * W + V) % Y := by
  have hd := Nat.div_add_mod (U * B + V / B) Y
  have hv := Nat.div_add_mod V B
  generalize (U * B + V / B) / Y = q at *
  generalize (U * B + V / B) % Y = r at *
  generalize V / B = v1 at *
  generalize V % B = v0 at *
  have e : U * W + V = (r * B + v0) + Y * (q * B) := by
    rw [← hv, hW]
    have : B * (Y * q + r) = B * (U * B + v1) := by rw [hd]
    grind
  rw [e, Nat.add_mul_div_left _ _ hY, Nat.add_mul_mod_self_left]
  exact ⟨Nat.add_comm _ _, rfl⟩
theorem div_two {U V Y : Nat} (hY : 0 < Y) :
    ((U * 4294967296 + V / 4294967296) / Y) * 4294967296 + (((U * 4294967296 + V / 4294967296) % Y) * 4294967296 + V % 4294967296) / Y = (U * W64 + V) / Y ∧
    (((U * 4294967296 + V / 4294967296) % Y) * 4294967296 + V % 4294967296) % Y = (U * W64 + V) % Y :=
  div_two' 4294967296 W64 (by rw [W64_eq]) hY
/-- Moved up: the same quotient; the rest is moved up with it. -/
theorem div_moved (u y s : Nat) (_hy : 0 < y) : (u * 2 ^ s) / (y * 2 ^ s) = u / y ∧ ((u * 2 ^ s) % (y * 2 ^ s)) / 2 ^ s = u % y := by
  have hp : 0 < 2 ^ s := Nat.pow_pos (by omega)
  exact ⟨Nat.mul_div_mul_right _ _ hp, by rw [Nat.mul_mod_mul_right, Nat.mul_div_cancel _ hp]⟩
/-- The two limbs of a number moved up. -/
theorem moved_limbs {hi lo s : Nat} (hs : s ≤ 63) (hlo : lo < W64) (hh : hi * 2 ^ s < W64) :
    (hi * W64 + lo) * 2 ^ s = (hi * 2 ^ s ||| lo / 2 ^ (64 - s)) * W64 + lo * 2 ^ s % W64 ∧ (hi * 2 ^ s ||| lo / 2 ^ (64 - s)) < W64 := by
  have hp : 0 < 2 ^ s := Nat.pow_pos (by omega)
  have e64 : W64 = 2 ^ (64 - s) * 2 ^ s := by rw [← Nat.pow_add, show 64 - s + s = 64 by omega, W64_eq]
  have hlt : lo / 2 ^ (64 - s) < 2 ^ s := by
    refine Nat.div_lt_of_lt_mul ?_
    rw [← e64]; exact hlo
  have hor : hi * 2 ^ s ||| lo / 2 ^ (64 - s) = hi * 2 ^ s + lo / 2 ^ (64 - s) := by
    rw [Nat.mul_comm hi, ← Nat.two_pow_add_eq_or_of_lt hlt]
  have hm : lo * 2 ^ s % W64 = (lo % 2 ^ (64 - s)) * 2 ^ s := by
    rw [e64, Nat.mul_mod_mul_right]
  have hd := Nat.div_add_mod lo (2 ^ (64 - s))
  rw [hor, hm]
  constructor
  · generalize 2 ^ (64 - s) = P at *
    generalize 2 ^ s = R at *
    generalize lo / P = a at *
    generalize lo % P = b at *
    rw [← hd, e64]
    grind
  · have h6 : hi < 2 ^ (64 - s) := by
      rw [e64] at hh
      exact Nat.lt_of_mul_lt_mul_right hh
    have h7 := Nat.mul_le_mul_right (2 ^ s) (show hi + 1 ≤ 2 ^ (64 - s) from h6)
    rw [← e64, Nat.add_mul, Nat.one_mul] at h7
    omega
theorem wrap_u64_nat (n : Nat) : IntKind.u64.wrap (n : Int) = ((n % W64 : Nat) : Int) := by rw [IntKind.wrap_u64, W64_eq]; omega
theorem wrap_u64_in {n : Nat} (h : n < W64) : IntKind.u64.wrap (n : Int) = (n : Int) := by rw [wrap_u64_nat, Nat.mod_eq_of_lt h]
theorem and_mask32 {n : Nat} (h : n < W64) : bits .and .u64 (n : Int) 4294967295 = ((n % 4294967296 : Nat) : Int) := by
  rw [W64_eq] at h
  have h1 := u64_and_nat n 4294967295 h (by omega)
  rwa [show n &&& 4294967295 = n % 4294967296 from Nat.and_two_pow_sub_one_eq_mod n 32] at h1
/-- A difference of two numbers that have run over, that is told as it is. -/
theorem wrap_sub_mod (a b c r : Nat) (h : a + b = c + r) (hr : r < W64) : IntKind.u64.wrap (IntKind.u64.wrap (IntKind.u64.wrap (a : Int) + (b : Int)) - IntKind.u64.wrap (c : Int)) = (r : Int) := by
  rw [W64_eq] at hr
  simp only [IntKind.wrap_u64]
  omega
theorem wrap_rest (n m : Nat) (hn : n < W64) : IntKind.u64.wrap ((n : Int) - IntKind.u64.wrap ((n : Int) / (m : Int) * (m : Int))) = ((n % m : Nat) : Int) := by
  have h1 := Nat.div_add_mod n m
  rw [Nat.mul_comm] at h1
  have h2 : (n : Int) / (m : Int) * (m : Int) = ((n / m * m : Nat) : Int) := by simp
  rw [h2, wrap_u64_in (by omega), show (n : Int) - ((n / m * m : Nat) : Int) = ((n % m : Nat) : Int) by omega, wrap_u64_in (by omega)]
theorem wrap_quo (n m : Nat) (hn : n < W64) : IntKind.u64.wrap ((n : Int) / (m : Int)) = (n : Int) / (m : Int) := by
  have e : (n : Int) / (m : Int) = ((n / m : Nat) : Int) := by simp
  rw [e, wrap_u64_in (Nat.lt_of_le_of_lt (Nat.div_le_self _ _) hn)]
theorem wrap_two (n d q Y r : Nat) (h : n * 4294967296 + d = q * Y + r) (hr : r < W64) :
    IntKind.u64.wrap (IntKind.u64.wrap (IntKind.u64.wrap ((n : Int) * 4294967296) + (d : Int)) - IntKind.u64.wrap ((q : Int) * (Y : Int))) = (r : Int) := by
  have := wrap_sub_mod (n * 4294967296) d (q * Y) r h hr
  rwa [Int.natCast_mul n, Int.natCast_mul q] at this
theorem wrap_half (q y0 P : Nat) (hq : q < 4294967296) (hy : y0 < 4294967296) (hP : q * y0 = P) : IntKind.u64.wrap ((q : Int) * (y0 : Int)) = (P : Int) := by
  have h2 : q * y0 ≤ 4294967295 * 4294967295 := Nat.mul_le_mul (by omega) (by omega)
  rw [← Int.natCast_mul, hP, wrap_u64_in (by rw [W64_eq]; omega)]
theorem halves_of (n : Nat) : ∃ n1 n0 : Nat, n = 4294967296 * n1 + n0 ∧ n0 < 4294967296 ∧ n1 = n / 4294967296 ∧ n0 = n % 4294967296 := ⟨n / 4294967296, n % 4294967296, by omega, by omega, rfl, rfl⟩
set_option maxHeartbeats 4000000 in
set_option maxRecDepth 100000 in
theorem bits_div64_great (hi lo y : Nat) (hlo : lo < W64) (hy : y < W64) (hhi : hi < y) (h0 : hi ≠ 0) (w : World) :
    Calls Tryz.prog 182 #[.int .u64 hi, .int .u64 lo, .int .u64 y] w fun e w' => e = .returned (.tuple #[.int .u64 (((hi * W64 + lo) / y : Nat) : Int), .int .u64 (((hi * W64 + lo) % y : Nat) : Int)]) ∧ w = w' := by
  obtain ⟨hY1, hY2, hs63⟩ := lifted_ge hy (by omega)
  have hm0 := div_moved (hi * W64 + lo) y (64 - bitLen y) (by omega)
  have hhm : hi * 2 ^ (64 - bitLen y) < y * 2 ^ (64 - bitLen y) := Nat.mul_lt_mul_of_pos_right hhi (Nat.pow_pos (by omega))
  have hml := moved_limbs (hi := hi) (lo := lo) hs63 hlo (by omega)
  have HL := Lib.hid (rfl : 64 - bitLen y = 64 - bitLen y)
  obtain ⟨s, hs⟩ : ∃ s, 64 - bitLen y = s := ⟨_, rfl⟩
  rw [hs] at hY1 hY2 hs63 hm0 hhm hml
  obtain ⟨Y, hYe⟩ : ∃ Y, y * 2 ^ s = Y := ⟨_, rfl⟩
  obtain ⟨U, hUe⟩ : ∃ U, hi * 2 ^ s ||| lo / 2 ^ (64 - s) = U := ⟨_, rfl⟩
  obtain ⟨V, hVe⟩ : ∃ V, lo * 2 ^ s % W64 = V := ⟨_, rfl⟩
  rw [hYe] at hY1 hY2 hm0
  rw [hUe, hVe] at hml
  rw [hml.1] at hm0
  have hVlt : V < W64 := hVe ▸ Nat.mod_lt _ W64_pos
  have hUY : U < Y := by
    rcases Nat.lt_or_ge U Y with h | h
    · exact h
    · exfalso
      have h1 : (hi * W64 + lo) * 2 ^ s < Y * W64 := by
        rw [← hYe, Nat.mul_right_comm]
        refine Nat.mul_lt_mul_of_pos_right ?_ (Nat.pow_pos (by omega))
        have := Nat.mul_le_mul_right W64 (show hi + 1 ≤ y from hhi)
        rw [Nat.add_mul, Nat.one_mul] at this
        omega
      rw [hml.1] at h1
      have := Nat.mul_le_mul_right W64 h
      omega
  have hdt := div_two (U := U) (V := V) (Y := Y) (by omega)
  have HY64 := W64_eq
  have hYge : 9223372036854775808 ≤ Y := by omega
  have hUlt : U < W64 := by omega
  -- the walk's own forms
  have ey : IntKind.u64.wrap ((y : Int) * 2 ^ s) = (Y : Int) := by
    have : (y : Int) * 2 ^ s = ((y * 2 ^ s : Nat) : Int) := by simp
    rw [this, hYe, wrap_u64_in hY1]
  have elo : IntKind.u64.wrap ((lo : Int) * 2 ^ s) = (V : Int) := by
    have : (lo : Int) * 2 ^ s = ((lo * 2 ^ s : Nat) : Int) := by simp
    rw [this, wrap_u64_nat, hVe]
  have ehi : bits .or .u64 (IntKind.u64.wrap ((hi : Int) * 2 ^ s)) ((lo : Int) / 2 ^ (64 - s)) = (U : Int) := by
    have e1 : (hi : Int) * 2 ^ s = ((hi * 2 ^ s : Nat) : Int) := by simp
    have e2 : (lo : Int) / 2 ^ (64 - s) = ((lo / 2 ^ (64 - s) : Nat) : Int) := by simp
    rw [e1, e2, wrap_u64_in (by omega), u64_or_nat _ _ (by omega) (Nat.lt_of_le_of_lt (Nat.div_le_self _ _) (by omega)), hUe]
  obtain ⟨d1, d0, hVS, hd0, hd1e, hd0e⟩ := halves_of V
  obtain ⟨y1, y0, hYS, hy0, hy1e, hy0e⟩ := halves_of Y
  rw [← hd1e, ← hd0e] at hdt
  have rV1 : (V : Int) / 4294967296 = (d1 : Int) := by omega
  have rY1 : (Y : Int) / 4294967296 = (y1 : Int) := by omega
  have ey0 := and_mask32 hY1
  have ev0 := and_mask32 hVlt
  rw [← hy0e] at ey0
  rw [← hd0e] at ev0
  have hd1 : d1 < 4294967296 := by omega
  have hy1 : y1 < 4294967296 := by omega
  have by1 : (2147483648 : Int) ≤ (y1 : Int) := by omega
  have bd1 : (d1 : Int) < 4294967296 := by omega
  have bd0 : (d0 : Int) < 4294967296 := by omega
  have by0 : (y0 : Int) < 4294967296 := by omega
  have by1' : (y1 : Int) < 4294967296 := by omega
  have bh := lt_W64 (x := hi) (by omega)
  have bl := lt_W64 hlo
  have bY := lt_W64 hy
  have t0 : ((y : Int) == 0) = false := beq_eq_false_iff_ne.2 (by omega)
  have t1 : ((hi : Int) == 0) = false := beq_eq_false_iff_ne.2 (by omega)
  have t2 : ¬ (y : Int) ≤ (hi : Int) := by omega
  have bY2 := lt_W64 hY1
  have bU2 := lt_W64 hUlt
  have bV2 := lt_W64 hVlt
  obtain ⟨q1, hq1⟩ : ∃ q1, q1 = (U * 4294967296 + d1) / Y := ⟨_, rfl⟩
  obtain ⟨R1, hr1⟩ : ∃ R1, R1 = (U * 4294967296 + d1) % Y := ⟨_, rfl⟩
  have hR1 : R1 < Y := hr1 ▸ Nat.mod_lt _ (by omega)
  have hR1W : R1 < W64 := by omega
  have bR1 := lt_W64 hR1W
  have hqr : U * 4294967296 + d1 = q1 * Y + R1 := by rw [hq1, hr1, Nat.mul_comm _ Y]; exact (Nat.div_add_mod _ _).symm
  obtain ⟨q0, hq0⟩ : ∃ q0, q0 = (R1 * 4294967296 + d0) / Y := ⟨_, rfl⟩
  obtain ⟨R0, hr0⟩ : ∃ R0, R0 = (R1 * 4294967296 + d0) % Y := ⟨_, rfl⟩
  have hR0W : R0 < W64 := Nat.lt_trans (hr0 ▸ Nat.mod_lt _ (by omega)) hY1
  have hqr0 : R1 * 4294967296 + d0 = q0 * Y + R0 := by rw [hq0, hr0, Nat.mul_comm _ Y]; exact (Nat.div_add_mod _ _).symm
  have hq1lt : q1 < 4294967296 := by rw [hq1]; exact dig_lt hUY hd1
  have hq0lt : q0 < 4294967296 := by rw [hq0]; exact dig_lt hR1 hd0
  have bq1 : (q1 : Int) < 4294967296 := by omega
  have bq0 : (q0 : Int) < 4294967296 := by omega
  rw [← hr1, ← hq1, ← hq0, ← hr0] at hdt
  have e15 := wrap_quo U y1 hUlt
  have e16 := wrap_rest U y1 hUlt
  have e17 := wrap_two U d1 q1 Y R1 hqr hR1W
  have e18 := wrap_quo R1 y1 hR1W
  have e19 := wrap_rest R1 y1 hR1W
  have e20 := wrap_two R1 d0 q0 Y R0 hqr0 hR0W
  have HFIN := Lib.hid (show q1 * 4294967296 + q0 = (hi * W64 + lo) / y ∧ R0 / 2 ^ s = (hi * W64 + lo) % y by rw [hdt.1, hdt.2]; exact hm0)
  have HQ1 := Lib.hid hq1
  have HQ0 := Lib.hid hq0
  have HYS := Lib.hid hYS
  have HS := Lib.hid hs
  replace hd0 := Lib.hid hd0
  replace hd1 := Lib.hid hd1
  replace hy0 := Lib.hid hy0
  replace hy1 := Lib.hid hy1
  have hYpos : 0 < Y := by omega
  replace hYge := Lib.hid hYge
  rw [← HFIN.out.1, ← HFIN.out.2]
  clear hq1 hr1 hqr hq0 hr0 hqr0 hq1lt hq0lt hdt hVS hYS hd1e hd0e hy1e hy0e hm0 hs hml hYe hUe hVe HY64 hhm HL hY2 hR1W hR0W hVlt hUlt hY1
  go_enter Tryz.func182, Tryz.ntmps182
  go_wp2_with fail
  refine (bits_lz64 y hy _).mono ?_
  rintro e w1 ⟨rfl, rfl⟩
  rw [HS.out]
  go_upto_block 0 with (fail)
  go_cut [15] (fun t15 wx => w = wx ∧ t15 = .int .u64 (q1 : Int))
  case first =>
    go_wp2_with fail
    go_loop [15, 16] (fun t15 t16 => ∃ q r : Nat, t15 = .int .u64 (q : Int) ∧ t16 = .int .u64 (r : Int) ∧ Dig U d1 Y y1 q r ∧ Half r) (fun t15 _ => (intOf t15).toNat)
    case atStart => exact ⟨U / y1, U % y1, by simp, by simp, dig_start HYS.out hy0.out hUY hYge.out hd1.out, show _ < _ from Nat.lt_trans (Nat.mod_lt _ (by omega)) hy1.out⟩
    case round =>
      obtain ⟨q, r, rfl, rfl, hdig, hr⟩ := hrel
      have HR := Lib.hid (show r < 4294967296 from hr)
      have hr' : (r : Int) < 4294967296 := by have := HR.out; omega
      have HD := Lib.hid hdig
      clear hdig hr
      by_cases hq : 4294967296 ≤ q
      · have h3 := dig_down HYS.out hUY hd1.out HD.out (.inl hq)
        have hq1' : 1 ≤ q := h3.2.2
        have hq' : (4294967296 : Int) ≤ (q : Int) := by omega
        have hqb : (q : Int) ≤ 4294967297 := by have := HD.out.2.2; omega
        have H3 := Lib.hid h3
        clear h3 hq
        by_cases hr2 : 4294967296 ≤ r + y1
        · have HF := Lib.hid (dig_done' HYS.out hy0.out H3.out.1 H3.out.2.1 hr2 (by omega))
          have hr3 : (4294967296 : Int) ≤ (r : Int) + (y1 : Int) := by omega
          clear hr2
          go_wp2_with fail
          go_meet
          exact ⟨rfl, by rw [HQ1.out, ← HF.out]; congr 1; omega⟩
        · have hr3 : decide ((4294967296 : Int) ≤ (r : Int) + (y1 : Int)) = false := by simp; omega
          have HR2 := Lib.hid hr2
          clear hr2
          go_wp2_with fail
          exact ⟨⟨q - 1, r + y1, by congr 1; omega, by congr 1, H3.out.1, show _ < _ by have := HR2.out; omega⟩, by simp [intOf]; omega⟩
      · obtain ⟨P, hP⟩ : ∃ P, q * y0 = P := ⟨_, rfl⟩
        have eP : IntKind.u64.wrap ((q : Int) * (y0 : Int)) = (P : Int) := wrap_half q y0 P (by omega) hy0.out hP
        have HP := Lib.hid hP
        have hq' : (q : Int) < 4294967296 := by omega
        clear hP hq
        by_cases hgt : 4294967296 * r + d1 < P
        · have h3 := dig_down HYS.out hUY hd1.out HD.out (.inr (by rw [HP.out]; exact hgt))
          have hq1' : 1 ≤ q := h3.2.2
          have hgt' : 4294967296 * (r : Int) + (d1 : Int) < (P : Int) := by omega
          have H3 := Lib.hid h3
          clear h3 hgt
          by_cases hr2 : 4294967296 ≤ r + y1
          · have HF := Lib.hid (dig_done' HYS.out hy0.out H3.out.1 H3.out.2.1 hr2 (by omega))
            have hr3 : (4294967296 : Int) ≤ (r : Int) + (y1 : Int) := by omega
            clear hr2
            go_wp2_with fail
            go_meet
            exact ⟨rfl, by rw [HQ1.out, ← HF.out]; congr 1; omega⟩
          · have hr3 : decide ((4294967296 : Int) ≤ (r : Int) + (y1 : Int)) = false := by simp; omega
            have HR2 := Lib.hid hr2
            clear hr2
            go_wp2_with fail
            exact ⟨⟨q - 1, r + y1, by congr 1; omega, by congr 1, H3.out.1, show _ < _ by have := HR2.out; omega⟩, by simp [intOf]; omega⟩
        · have HF := Lib.hid (dig_done HYS.out HD.out (by rw [HP.out]; omega) (by omega))
          obtain ⟨S, hS⟩ : ∃ S : Nat, 4294967296 * (r : Int) + (d1 : Int) = (S : Int) := ⟨4294967296 * r + d1, by simp⟩
          have hgt' : decide (S < P) = false := by simp; omega
          have hq2 : decide ((4294967296 : Int) ≤ (q : Int)) = false := by simp; omega
          clear hgt
          go_wp2_with fail
          go_meet
          exact ⟨rfl, by rw [HQ1.out, ← HF.out]⟩
  case rest =>
    obtain ⟨rfl, rfl⟩ := hcut
    go_upto_block 2 with (fail)
    go_cut [18] (fun t15 wx => w = wx ∧ t15 = .int .u64 (q0 : Int))
    case first =>
      go_wp2_with fail
      go_loop [18, 16] (fun t15 t16 => ∃ q r : Nat, t15 = .int .u64 (q : Int) ∧ t16 = .int .u64 (r : Int) ∧ Dig R1 d0 Y y1 q r ∧ Half r) (fun t15 _ => (intOf t15).toNat)
      case atStart => exact ⟨R1 / y1, R1 % y1, by simp, by simp, dig_start HYS.out hy0.out hR1 hYge.out hd0.out, show _ < _ from Nat.lt_trans (Nat.mod_lt _ (by omega)) hy1.out⟩
      case round =>
        obtain ⟨q, r, rfl, rfl, hdig, hr⟩ := hrel
        have HR := Lib.hid (show r < 4294967296 from hr)
        have hr' : (r : Int) < 4294967296 := by have := HR.out; omega
        have HD := Lib.hid hdig
        clear hdig hr
        by_cases hq : 4294967296 ≤ q
        · have h3 := dig_down HYS.out hR1 hd0.out HD.out (.inl hq)
          have hq1' : 1 ≤ q := h3.2.2
          have hq' : (4294967296 : Int) ≤ (q : Int) := by omega
          have hqb : (q : Int) ≤ 4294967297 := by have := HD.out.2.2; omega
          have H3 := Lib.hid h3
          clear h3 hq
          by_cases hr2 : 4294967296 ≤ r + y1
          · have HF := Lib.hid (dig_done' HYS.out hy0.out H3.out.1 H3.out.2.1 hr2 (by omega))
            have hr3 : (4294967296 : Int) ≤ (r : Int) + (y1 : Int) := by omega
            clear hr2
            go_wp2_with fail
            go_meet
            exact ⟨rfl, by rw [HQ0.out, ← HF.out]; congr 1; omega⟩
          · have hr3 : decide ((4294967296 : Int) ≤ (r : Int) + (y1 : Int)) = false := by simp; omega
            have HR2 := Lib.hid hr2
            clear hr2
            go_wp2_with fail
            exact ⟨⟨q - 1, r + y1, by congr 1; omega, by congr 1, H3.out.1, show _ < _ by have := HR2.out; omega⟩, by simp [intOf]; omega⟩
        · obtain ⟨P, hP⟩ : ∃ P, q * y0 = P := ⟨_, rfl⟩
          have eP : IntKind.u64.wrap ((q : Int) * (y0 : Int)) = (P : Int) := wrap_half q y0 P (by omega) hy0.out hP
          have HP := Lib.hid hP
          have hq' : (q : Int) < 4294967296 := by omega
          clear hP hq
          by_cases hgt : 4294967296 * r + d0 < P
          · have h3 := dig_down HYS.out hR1 hd0.out HD.out (.inr (by rw [HP.out]; exact hgt))
            have hq1' : 1 ≤ q := h3.2.2
            have hgt' : 4294967296 * (r : Int) + (d0 : Int) < (P : Int) := by omega
            have H3 := Lib.hid h3
            clear h3 hgt
            by_cases hr2 : 4294967296 ≤ r + y1
            · have HF := Lib.hid (dig_done' HYS.out hy0.out H3.out.1 H3.out.2.1 hr2 (by omega))
              have hr3 : (4294967296 : Int) ≤ (r : Int) + (y1 : Int) := by omega
              clear hr2
              go_wp2_with fail
              go_meet
              exact ⟨rfl, by rw [HQ0.out, ← HF.out]; congr 1; omega⟩
            · have hr3 : decide ((4294967296 : Int) ≤ (r : Int) + (y1 : Int)) = false := by simp; omega
              have HR2 := Lib.hid hr2
              clear hr2
              go_wp2_with fail
              exact ⟨⟨q - 1, r + y1, by congr 1; omega, by congr 1, H3.out.1, show _ < _ by have := HR2.out; omega⟩, by simp [intOf]; omega⟩
          · have HF := Lib.hid (dig_done HYS.out HD.out (by rw [HP.out]; omega) (by omega))
            obtain ⟨S, hS⟩ : ∃ S : Nat, 4294967296 * (r : Int) + (d0 : Int) = (S : Int) := ⟨4294967296 * r + d0, by simp⟩
            have hgt' : decide (S < P) = false := by simp; omega
            have hq2 : decide ((4294967296 : Int) ≤ (q : Int)) = false := by simp; omega
            clear hgt
            go_wp2_with fail
            go_meet
            exact ⟨rfl, by rw [HQ0.out, ← HF.out]⟩
    case rest =>
      obtain ⟨rfl, rfl⟩ := hcut
      go_wp2_with fail
      go_ret2
      exact ⟨by simp, rfl⟩
end Go.Proofs.YtjbagikfogejnaaGreatDoor
/- The contracts of package big's sizes (nat.go), on: over one limb; how many bits; moved up and down. -/
namespace Go.Proofs.YtjbagikfogejnaaGreatDoor
open Go.RowKit Go.Deep
theorem bits_div64 (hi lo y : Nat) (hlo : lo < W64) (hy : y < W64) (hhi : hi < y) (w : World) :
    Calls Tryz.prog 182 #[.int .u64 hi, .int .u64 lo, .int .u64 y] w fun e w' => e = .returned (.tuple #[.int .u64 (((hi * W64 + lo) / y : Nat) : Int), .int .u64 (((hi * W64 + lo) % y : Nat) : Int)]) ∧ ∃ n, w' = w.drewN n := by
  by_cases h0 : hi = 0
  · subst h0
    have y1 : (1 : Int) ≤ (y : Int) := by omega
    have bl := lt_W64 hlo
    have bY := lt_W64 hy
    have t0 : ((y : Int) == 0) = false := beq_eq_false_iff_ne.2 (by omega)
    have e1 : IntKind.u64.wrap ((lo : Int) / (y : Int)) = (lo : Int) / (y : Int) := wrap_quo lo y hlo
    have HE := Lib.hid (show (0 * W64 + lo) / y = lo / y ∧ (0 * W64 + lo) % y = lo % y by rw [Nat.zero_mul, Nat.zero_add]; exact ⟨rfl, rfl⟩)
    rw [HE.out.1, HE.out.2]
    go_enter Tryz.func182, Tryz.ntmps182
    go_wp2_with fail
    go_quiet (fail)
    go_wp2_with fail
    go_ret2
    exact ⟨by simp, _, rfl⟩
  · exact (bits_div64_great hi lo y hlo hy hhi h0 w).mono fun _ _ h => ⟨h.1, 0, h.2.symm⟩
theorem digit_lt {r x by_ : Nat} (hr : r < by_) (hx : x < W64) : (r * W64 + x) / by_ < W64 := by
  refine Nat.div_lt_of_lt_mul ?_
  have := Nat.mul_le_mul_right W64 (show r + 1 ≤ by_ from hr)
  rw [Nat.add_mul, Nat.one_mul] at this
  omega
/-! ### size -/
theorem nbits_top {xs : List Nat} (hs : Small xs) {t : Nat} (ht0 : t ≠ 0) (ht : t < W64) : nbits (val (xs ++ [t])) = 64 * xs.length + bitLen t := by
  have ht' : t < 2 ^ 64 := by rw [← W64_two]; exact ht
  obtain ⟨h1, h2⟩ := bitLen_spec t ht'
  have h2 := h2 ht0
  have hp := bitLen_pos ht' ht0
  have hv := val_lt hs
  rw [val_snoc]
  obtain ⟨b, hb⟩ : ∃ b, bitLen t = b + 1 := ⟨bitLen t - 1, by omega⟩
  rw [hb, Nat.pow_succ] at h1 h2
  have e := nbits_eq (n := val xs + W64 ^ xs.length * t) (k := 64 * xs.length + b) ?_ ?_
  · omega
  · rw [Nat.pow_add, ← W64_pow]
    have := Nat.mul_le_mul_left (W64 ^ xs.length) (show 2 ^ b ≤ t by omega)
    omega
  · rw [Nat.add_assoc, Nat.pow_add, ← W64_pow, Nat.pow_succ]
    have := Nat.mul_le_mul_left (W64 ^ xs.length) (show t + 1 ≤ 2 ^ b * 2 from h1)
    rw [Nat.mul_add, Nat.mul_one] at this
    omega
theorem snoc_of_norm {xs : List Nat} (h : Norm xs) (hne : xs ≠ []) : ∃ ys t, xs = ys ++ [t] ∧ t ≠ 0 := by
  refine ⟨xs.dropLast, xs.getLast hne, (List.dropLast_concat_getLast hne).symm, ?_⟩
  rcases h with h | h
  · exact absurd h hne
  · have hl : 0 < xs.length := List.length_pos_iff.2 hne
    have e : xs.getD (xs.length - 1) 0 = xs.getLast hne := by
      rw [List.getLast_eq_getElem]
      simp [show xs.length - 1 < xs.length by omega]
    rw [e] at h; exact h
/-! ### left -/
theorem shl_step {x s low : Nat} (hx : x < W64) (_hs : s < 64) (hlow : low < 2 ^ s) :
    x * 2 ^ s % W64 + low < W64 ∧ x / 2 ^ (64 - s) < 2 ^ s ∧ (x * 2 ^ s % W64 + low) + W64 * (x / 2 ^ (64 - s)) = x * 2 ^ s + low ∧ (x * 2 ^ s % W64 ||| low) = x * 2 ^ s % W64 + low := by
  have e64 : W64 = 2 ^ (64 - s) * 2 ^ s := by rw [← Nat.pow_add, show 64 - s + s = 64 by omega, W64_two]
  have hp : 0 < 2 ^ s := Nat.pow_pos (by omega)
  have hm : x * 2 ^ s % W64 = 2 ^ s * (x % 2 ^ (64 - s)) := by rw [e64, Nat.mul_mod_mul_right, Nat.mul_comm]
  have hd := Nat.div_add_mod x (2 ^ (64 - s))
  have hml := Nat.mod_lt x (show 0 < 2 ^ (64 - s) from Nat.pow_pos (by omega))
  have h4 : x / 2 ^ (64 - s) < 2 ^ s := Nat.div_lt_of_lt_mul (by rw [← e64]; exact hx)
  have hor := Nat.two_pow_add_eq_or_of_lt hlow (x % 2 ^ (64 - s))
  rw [hm]
  refine ⟨?_, h4, ?_, hor.symm⟩
  · have h5 := Nat.mul_le_mul_left (2 ^ s) (show x % 2 ^ (64 - s) + 1 ≤ 2 ^ (64 - s) from hml)
    rw [Nat.mul_add, Nat.mul_one, Nat.mul_comm (2 ^ s) (2 ^ (64 - s)), ← e64] at h5
    omega
  · generalize 2 ^ (64 - s) = P at *
    generalize 2 ^ s = R at *
    generalize x / P = a at *
    generalize x % P = b at *
    rw [← hd, e64]
    grind
end Go.Proofs.YtjbagikfogejnaaGreatDoor
/- The contracts of package big's sizes (nat.go), on: moved down. -/
namespace Go.Proofs.YtjbagikfogejnaaGreatDoor
open Go.RowKit Go.Deep
/-! ### right -/
/-- One limb of what is moved down by s bits (below 64). -/
theorem shr_step {x y s : Nat} (hx : x < W64) (hs : s < 64) :
    x / 2 ^ s + y % 2 ^ s * 2 ^ (64 - s) < W64 ∧ (x / 2 ^ s + y % 2 ^ s * 2 ^ (64 - s)) * 2 ^ s + x % 2 ^ s = x + W64 * (y % 2 ^ s) ∧ (x / 2 ^ s ||| y * 2 ^ (64 - s) % W64) = x / 2 ^ s + y % 2 ^ s * 2 ^ (64 - s) := by
  have e64 : W64 = 2 ^ (64 - s) * 2 ^ s := by rw [← Nat.pow_add, show 64 - s + s = 64 by omega, W64_two]
  have hp : 0 < 2 ^ s := Nat.pow_pos (by omega)
  have hm : y * 2 ^ (64 - s) % W64 = 2 ^ (64 - s) * (y % 2 ^ s) := by rw [e64, Nat.mul_comm (2 ^ (64 - s)) (2 ^ s), Nat.mul_mod_mul_right, Nat.mul_comm]
  have h4 : x / 2 ^ s < 2 ^ (64 - s) := Nat.div_lt_of_lt_mul (by rw [Nat.mul_comm, ← e64]; exact hx)
  have hor := Nat.two_pow_add_eq_or_of_lt h4 (y % 2 ^ s)
  have hml := Nat.mod_lt y hp
  have hd := Nat.div_add_mod x (2 ^ s)
  refine ⟨?_, ?_, by rw [hm, Nat.or_comm, ← hor, Nat.mul_comm (y % 2 ^ s), Nat.add_comm]⟩
  · have h5 := Nat.mul_le_mul_left (2 ^ (64 - s)) (show y % 2 ^ s + 1 ≤ 2 ^ s from hml)
    rw [Nat.mul_add, Nat.mul_one, ← e64, Nat.mul_comm (2 ^ (64 - s)) (y % 2 ^ s)] at h5
    omega
  · generalize 2 ^ (64 - s) = P at *
    generalize 2 ^ s = R at *
    generalize x / R = a at *
    generalize x % R = b at *
    rw [← hd, e64]
    grind
/-- Is something cut off? -/
def lostB (v n : Nat) : Bool := decide (v % 2 ^ n ≠ 0)
end Go.Proofs.YtjbagikfogejnaaGreatDoor
/- The contracts of package big's sizes (nat.go), on: one digit of a long division. -/
namespace Go.Proofs.YtjbagikfogejnaaGreatDoor
open Go.RowKit Go.Deep
/-! ### windows of a row -/
theorem drop_set_add (os : List Nat) (p i d : Nat) : (os.set (p + i) d).drop p = (os.drop p).set i d := by
  rw [List.drop_set, if_neg (by omega), Nat.add_sub_cancel_left]
theorem getD_of_drop {os us : List Nat} {k : Nat} (h : os.drop k = us.drop k) : os.getD k 0 = us.getD k 0 := by
  have := congrArg (fun l => l.getD 0 0) h
  simpa using this
theorem drop_more {os us : List Nat} {k : Nat} (h : os.drop k = us.drop k) (j : Nat) : os.drop (k + j) = us.drop (k + j) := by
  rw [← List.drop_drop, ← List.drop_drop, h]
theorem getD_drop (us : List Nat) (p i : Nat) : (us.drop p).getD i 0 = us.getD (p + i) 0 := by simp
theorem alg_sub (W : Nat) {a1 a2 qv P d c b u b' : Nat} (h : a1 + qv = a2 + P * (b + c)) (hs : d + c + b = u + W * b') : a1 + P * d + qv = a2 + P * u + P * W * b' := by
  have h5 : P * (d + c + b) = P * (u + W * b') := by rw [hs]
  grind
theorem alg_mulsub (W : Nat) {a1 a2 a3 q0 P d l b u b' c c' y : Nat} (h : a1 + q0 * a3 = a2 + P * (b + c)) (hs : d + l + b = u + W * b') (hm : l + W * c' = q0 * y + c) : a1 + P * d + q0 * (a3 + P * y) = a2 + P * u + P * W * (b' + c') := by
  have h5 : P * (d + l + b) = P * (u + W * b') := by rw [hs]
  have h6 : P * (l + W * c') = P * (q0 * y + c) := by rw [hm]
  grind
theorem alg_add (W : Nat) {a1 a2 a3 P d c u y c' : Nat} (h : a1 + P * c = a2 + a3) (hs : d + W * c' = u + y + c) : a1 + P * d + P * W * c' = a2 + P * u + (a3 + P * y) := by
  have h5 : P * (d + W * c') = P * (u + y + c) := by rw [hs]
  grind
theorem only_set (w : World) (p : Addr) (u : Value) : w.grownBy (w.setCell p u) (some p.block) :=
  ⟨rfl, rfl, rfl, by simp [World.setCell], fun i _ hne => Below.heap_setCell w p u i (fun e => hne (by rw [e]))⟩
theorem mulsub_step {lo hi c lo2 c2 y q : Nat} (h1 : lo + W64 * hi = q * y) (h2 : lo2 + W64 * c2 = lo + c + 0) : lo2 + W64 * (hi + c2) = q * y + c := by
  rw [Nat.mul_add]; omega
theorem mulsub_bound {q y c lo2 d : Nat} (hq : q < W64) (hy : y < W64) (hc : c < W64) (h : lo2 + W64 * d = q * y + c) : d < W64 := by
  exact limb_mul_bound (o := 0) hq hy W64_pos hc (s := lo2) (by omega)
end Go.Proofs.YtjbagikfogejnaaGreatDoor
/- The contracts of package big's sizes (nat.go), on: quotient and rest; the whole root. -/
namespace Go.Proofs.YtjbagikfogejnaaGreatDoor
open Go.RowKit Go.Deep
/-! ### the long division's steps, in lists -/
theorem alg_over (W : Nat) {M t win rest P D V q r : Nat} (hrest : rest = 0) (hM : M = t + P * (win + rest) + D * (P * W) * V) (hw : win = q * V + r) : M = t + P * (r + 0) + (q + W * D) * P * V := by
  subst hrest
  rw [hM, hw]; grind
theorem over_win {us : List Nat} (hs : Small us) {p lb V : Nat} (hp : p + (lb + 1) ≤ us.length) (hVl : V < W64 ^ lb) (hlt : val (us.drop (p + 1)) < V) :
    val ((us.drop p).take (lb + 1)) < V * W64 ∧ val (us.drop (p + (lb + 1))) = 0 := by
  have h1 := val_drop_step us p (by omega)
  have h2 : us.getD p 0 < W64 := hs.getD p
  have h3 := val_split (us.drop p) (lb + 1) (by rw [List.length_drop]; omega)
  rw [List.drop_drop] at h3
  have h4 := val_split (us.drop (p + 1)) lb (by rw [List.length_drop]; omega)
  rw [List.drop_drop] at h4
  have h5 : W64 * val (us.drop (p + 1)) + W64 ≤ W64 * V := by
    have := Nat.mul_le_mul_left W64 (show val (us.drop (p + 1)) + 1 ≤ V from hlt)
    rwa [Nat.mul_add, Nat.mul_one] at this
  rw [Nat.mul_comm V]
  refine ⟨by omega, ?_⟩
  rw [show p + 1 + lb = p + (lb + 1) by omega] at h4
  rcases Nat.eq_zero_or_pos (val (us.drop (p + (lb + 1)))) with h6 | h6
  · exact h6
  · have := Nat.mul_le_mul_left (W64 ^ lb) h6
    omega
theorem over_step {us us' os : List Nat} (hs : Small us) {p lb V M q : Nat} (hlen : us'.length = us.length) (hp : p + (lb + 1) ≤ us.length) (hV0 : 0 < V) (hVl : V < W64 ^ lb) (hlt : val (us.drop (p + 1)) < V)
    (hM : M = val us + val (os.drop (p + 1)) * W64 ^ (p + 1) * V) (hq : q = val ((us.drop p).take (lb + 1)) / V) (htk : us'.take p = us.take p) (hdr : us'.drop (p + (lb + 1)) = us.drop (p + (lb + 1)))
    (hr : val ((us'.drop p).take (lb + 1)) = val ((us.drop p).take (lb + 1)) % V) (hpo : p < os.length) :
    val (us'.drop p) < V ∧ M = val us' + val ((os.set p q).drop p) * W64 ^ p * V := by
  obtain ⟨_, h0⟩ := over_win hs hp hVl hlt
  have e1 := val_split us p (by omega)
  have e2 := val_split (us.drop p) (lb + 1) (by rw [List.length_drop]; omega)
  rw [List.drop_drop, h0] at e2
  have e3 := val_split us' p (by omega)
  have e4 := val_split (us'.drop p) (lb + 1) (by rw [List.length_drop]; omega)
  rw [List.drop_drop, hdr, h0, hr] at e4
  have h5 := Nat.div_add_mod (val ((us.drop p).take (lb + 1))) V
  rw [← hq] at h5
  have h6 := Nat.mod_lt (val ((us.drop p).take (lb + 1))) hV0
  rw [Nat.mul_zero, Nat.add_zero] at e4
  refine ⟨by rw [e4]; exact h6, ?_⟩
  rw [e3, e4, htk, val_drop_set os p q hpo]
  rw [e1, e2, Nat.pow_succ] at hM
  have h7 := alg_over W64 (Nat.mul_zero (W64 ^ (lb + 1))) hM (q := q) (r := val ((us.drop p).take (lb + 1)) % V) (by rw [Nat.mul_comm]; exact h5.symm)
  rwa [Nat.add_zero] at h7
/-- Both numbers moved up till the divisor's highest bit is set. -/
theorem moved_lc {m n : Nat} (hn : n ≠ 0) (hmn : n ≤ m) : ∃ s t, (limbs n).getD (lc n - 1) 0 = t ∧ t < W64 ∧ 64 - bitLen t = s ∧ s ≤ 63 ∧ lc (n * 2 ^ s) = lc n ∧ lc m ≤ lc (m * 2 ^ s) ∧ lc (m * 2 ^ s) ≤ lc m + 1 := by
  obtain ⟨ys, t, hyt, ht0⟩ := snoc_of_norm (norm_limbs n) (fun e => hn (limbs_eq_nil.1 e))
  have hsm := small_limbs n
  rw [hyt] at hsm
  have hys : Small ys := fun z hz => hsm z (by simp [hz])
  have htW : t < W64 := hsm t (by simp)
  have hnb := nbits_top hys ht0 htW
  rw [← hyt, val_limbs] at hnb
  have hlc : lc n = ys.length + 1 := by unfold lc; rw [hyt]; simp
  have hbl := bitLen_le64 htW
  have hbp := bitLen_pos (by rw [← W64_two]; exact htW) ht0
  refine ⟨64 - bitLen t, t, by rw [hlc, hyt]; simp, htW, rfl, by omega, ?_, lc_mono (Nat.le_mul_of_pos_right _ (Nat.pow_pos (by omega))), ?_⟩
  · have h1 := nbits_mul_pow (k := 64 - bitLen t) hn
    have h2 : lc (n * 2 ^ (64 - bitLen t)) ≤ lc n := by rw [lc_le_nbits, h1, hnb, hlc]; omega
    have h3 : lc n ≤ lc (n * 2 ^ (64 - bitLen t)) := lc_mono (Nat.le_mul_of_pos_right _ (Nat.pow_pos (by omega)))
    omega
  · have h1 := nbits_mul_pow (n := m) (k := 64 - bitLen t) (by omega)
    rw [lc_le_nbits, h1]
    have := nbits_le_lc m
    omega
/-! ### the whole root -/
/-- The greatest number whose square is not above n. -/
def isqrt (n : Nat) : Nat := if n = 0 then 0 else
  if (2 * isqrt (n / 4) + 1) * (2 * isqrt (n / 4) + 1) ≤ n then 2 * isqrt (n / 4) + 1 else 2 * isqrt (n / 4)
termination_by n
decreasing_by all_goals exact Nat.div_lt_self (by omega) (by omega)
end Go.Proofs.YtjbagikfogejnaaGreatDoor
/-
A region that draws its order and holds calls that lay memory or write it: ONE walk serves every order, where
* its reads come to the same in each world of a class C, and every call leaves a world of C;
* the calls wait for one another;
* the last operations (the tail) wait for all the others: of them no class is asked.
The walk: stages of reads (wpQuiet), single loud operations, then the tail (wpList).
-/
namespace Go.Proofs.YtjbagikfogejnaaGreatDoor
open Go
section
variable {P : Program} {ops : Array Oper} {md : Region.Mode} {C : World → Prop} {Q : Exit → Act → World → Prop}
/-! ### operations that read -/
/-- No call of a function, nothing deferred, sent or let go. -/
def plainOp (o : Oper) : Bool :=
  match o.op with
  | .call c => match c.callee with
    | .builtin .len => true
    | .builtin .cap => true
    | .builtin .min => true
    | .builtin .max => true
    | _ => false
  | .move _ | .assign _ | .pick .. | .load .. | .nilCheck _ | .binOp .. | .unOp .. | .convert .. | .fieldAddr .. | .field .. | .indexAddr .. | .index .. | .slice .. | .extract .. | .build .. => true
  | _ => false
theorem run_value (s : Sem Value) (w : World) : (∃ v w', (do pure (Next.value (← s)) : Sem Next).run P w = .ok (.value v) w') ∨ (∃ x w', (do pure (Next.value (← s)) : Sem Next).run P w = .halt x w') := by
  rw [Sem.run_bind]
  cases h : s.run P w with
  | ok v w' => exact .inl ⟨v, w', by simp [Result.andThen, Sem.run_pure]⟩
  | halt x w' => exact .inr ⟨x, w', by simp [Result.andThen]⟩
theorem run_panic (w : World) : ∃ x w', (runtimePanic .nilDeref : Sem Next).run P w = .halt x w' := ⟨_, _, rfl⟩
theorem plain_no_enter {o : Oper} (h : plainOp o = true) (a : Act) (w : World) (f : FuncId) (args : Array Value) (w' : World) : (execOp a.eval o).run P w ≠ .ok (.enter f args) w' := by
  have key : ∀ s : Sem Value, (do pure (Next.value (← s)) : Sem Next).run P w ≠ .ok (.enter f args) w' := by
    intro s
    rcases run_value (P := P) s w with ⟨v, w1, e⟩ | ⟨x, w1, e⟩ <;> rw [e] <;> simp
  unfold plainOp at h
  obtain ⟨dst, op, ty, pos, after, guard⟩ := o
  cases op <;> simp only at h <;> first | cases h | skip
  all_goals first
    | exact key _
    | (unfold execOp; simp [Sem.run_pure]; done)
    | skip
  case pick c x y =>
    unfold execOp
    simp only [Sem.run_bind]
    cases (asBool (a.eval c)).run P w with
    | ok b w1 => simp [Result.andThen, Sem.run_pure]
    | halt x w1 => simp [Result.andThen]
  case nilCheck x =>
    unfold execOp
    simp only
    have kp : (runtimePanic .nilDeref : Sem Next).run P w ≠ .ok (.enter f args) w' := by
      obtain ⟨x, w1, h⟩ := run_panic (P := P) w
      rw [h]; simp
    split
    · exact kp
    · exact kp
    · exact kp
    · split
      · exact kp
      · simp only [Sem.run_bind]
        rename_i t u _
        cases (program).run P w with
        | halt x w1 => simp [Result.andThen]
        | ok pr w1 =>
          simp only [Result.andThen]
          cases (nilAhead (pr.types.size + Made.depth) t u _).run P w1 with
          | halt x w2 => simp
          | ok b w2 =>
            simp only
            split
            · simp [unsupported, Sem.run, Result.andThen]
            · simp [Sem.run_pure]
      · simp [Sem.run_pure]
    · simp [Sem.run_pure]
  case call c =>
    obtain ⟨callee, xs, ats⟩ := c
    cases callee with
    | builtin b =>
      cases b <;> simp only at h <;> first | cases h | skip
      all_goals exact key _
    | _ => cases h
/-! ### the reads, at a class of worlds -/
/-- In every world of the class the operation reads v, and no more. -/
def ReadsTo (P : Program) (ops : Array Oper) (C : World → Prop) (o : Oper) (v : Value) (a : Act) : Prop :=
  (Region.wanted o (yielded ops a.tmps) = true ∧ ∀ w, C w → (execOp a.eval o).run P w = .ok (.value v) w ∨ ((execOp a.eval o).run P w = .ok .skip w ∧ v = undef)) ∨
  (Region.wanted o (yielded ops a.tmps) = false ∧ v = undef)
theorem ReadsTo.of_same {o : Oper} {v : Value} {a a' : Act} (hy : ReadsTo P ops C o v a) (he : execOp a'.eval o = execOp a.eval o)
    (hw : Region.wanted o (yielded ops a'.tmps) = Region.wanted o (yielded ops a.tmps)) : ReadsTo P ops C o v a' := by
  unfold ReadsTo at *
  rw [he, hw]
  exact hy
theorem readsTo_of_quiet {o : Oper} (hp : plainOp o = true) {a : Act} {v : Value} (hw : Region.wanted o (yielded ops a.tmps) = true) (h : ∀ w, C w → o.quietAt P a C w v) : ReadsTo P ops C o v a := by
  refine .inl ⟨hw, fun w hC => ?_⟩
  have h1 := h w hC
  have h2 := plain_no_enter (P := P) hp a w
  unfold Oper.quietAt at h1
  generalize (execOp a.eval o).run P w = r at *
  cases r with
  | halt x w' => exact h1.elim
  | ok n w' =>
    cases n <;> simp only [Oper.quietUpon] at h1
    case value u => obtain ⟨rfl, rfl⟩ := h1; exact .inl rfl
    case skip => obtain ⟨rfl, rfl⟩ := h1; exact .inr ⟨rfl, rfl⟩
    case enter f args => exact absurd rfl (h2 f args w')
/-! ### one operation of the walk, nothing let out of it -/
def noWay : Exit → Act → World → Prop := fun _ _ _ => False
def lOp (P : Program) (ops : Array Oper) (i : Nat) (K : Act → World → Prop) (a : Act) (w : World) : Prop :=
  match ops[i]? with
  | none => False
  | some o => if Region.wanted o (yielded ops a.tmps) then o.wp P a w K noWay else K (a.put o.dst undef) w
theorem lOp_mono {i : Nat} {a : Act} {w : World} {K K' : Act → World → Prop} (h : ∀ a w, K a w → K' a w) (hh : lOp P ops i K a w) : lOp P ops i K' a w := by
  unfold lOp at *
  split
  · rename_i ho; simp only [ho] at hh
  · rename_i o ho
    simp only [ho] at hh
    split
    · rename_i hw; simp only [hw, if_true] at hh; exact Oper.wp_mono h hh
    · rename_i hw; simp only [hw] at hh; exact h _ _ hh
theorem ReadsTo.lOp {i : Nat} {o : Oper} {v : Value} {a : Act} (hi : ops[i]? = some o) (hy : ReadsTo P ops C o v a) {K : Act → World → Prop} {w : World} (hC : C w) (h : K (a.put o.dst v) w) : lOp P ops i K a w := by
  unfold Go.Proofs.YtjbagikfogejnaaGreatDoor.lOp
  simp only [hi]
  rcases hy with ⟨hw, hv⟩ | ⟨hw, rfl⟩
  · simp only [hw, if_true, Oper.wp]
    rcases hv w hC with e | ⟨e, rfl⟩ <;> rw [e] <;> exact h
  · simp only [hw, Bool.false_eq_true, if_false]; exact h
/-- One operation 'oj', apart from the reading 'oi'. -/
theorem lOp_put {j : Nat} {oi oj : Oper} {v : Value} (hj : ops[j]? = some oj) (hap : oi.apart ops oj = true)
    (hsi : ∀ cs b, oi.op ≠ .select cs b) (hsj : ∀ cs b, oj.op ≠ .select cs b) {K : Act → World → Prop} {a : Act} {w : World}
    (hy : ReadsTo P ops C oi v a) (h : lOp P ops j K (a.put oi.dst v) w) :
    lOp P ops j (fun a' w' => ReadsTo P ops C oi v a' ∧ K (a'.put oi.dst v) w') a w := by
  obtain ⟨h1, h2, h3⟩ := Oper.apart_spec hap
  have keep : ∀ (a : Act), ReadsTo P ops C oi v a → ∀ u, ReadsTo P ops C oi v (a.put oj.dst u) := fun a hy u =>
    hy.of_same (execOp_put oi hsi a oj.dst u h3) (wanted_put oi a oj.dst u h3)
  have keepD : ∀ d, ReadsTo P ops C oi v { a with defers := d :: a.defers } := fun d => hy.of_same rfl rfl
  unfold lOp at *
  simp only [hj] at *
  rw [wanted_put oj a oi.dst v h1] at h
  split
  · rename_i hw
    simp only [hw, if_true] at h
    unfold Oper.wp at *
    rw [execOp_put oj hsj a oi.dst v h1] at h
    generalize (execOp a.eval oj).run P w = r at *
    cases r with
    | ok n w' =>
      cases n <;> simp only [Oper.upon] at h ⊢
      case value u => exact ⟨keep a hy u, by rw [← Act.put_comm a v u h2]; exact h⟩
      case skip => exact ⟨keep a hy _, by rw [← Act.put_comm a v undef h2]; exact h⟩
      case defer d =>
        refine ⟨keep _ (keepD d) _, ?_⟩
        rw [← Act.put_comm _ v undef h2, ← Act.put_defers]
        exact h
      case enter f args =>
        refine Calls.mono h fun e w'' he => ?_
        cases e with
        | returned u => exact ⟨keep a hy u, by rw [← Act.put_comm a v u h2]; exact he⟩
        | panicked c => exact he
        | outgrown => exact he
      case row row args => exact Rows.mono h fun u w'' he => ⟨keep a hy u, by rw [← Act.put_comm a v u h2]; exact he⟩
    | halt x w' =>
      cases x <;> simp only [Oper.upon] at h ⊢
      case panic u => exact h
  · rename_i hw
    simp only [hw] at h
    exact ⟨keep a hy _, by rw [← Act.put_comm a v undef h2]; exact h⟩
theorem wpOp_of_lOp {i : Nat} {a : Act} {w : World} {K : Act → World → Prop} (h : lOp P ops i K a w) : wpOp P ops Q i K a w := by
  unfold lOp at h
  unfold wpOp
  split
  · rename_i ho; simp only [ho] at h
  · rename_i o ho
    simp only [ho] at h
    split
    · rename_i hw
      simp only [hw, if_true] at h
      refine .inl ?_
      unfold Oper.wp at *
      generalize (execOp a.eval o).run P w = r at *
      cases r with
      | ok n w' =>
        cases n <;> simp only [Oper.upon] at h ⊢ <;>
          first
            | exact h
            | exact Calls.mono h (fun e w'' he => by cases e <;> first | exact he | exact he.elim | exact he.elim (fun _ ⟨_, h⟩ => h.elim))
      | halt x w' => cases x <;> simp only [Oper.upon, noWay] at h ⊢
    · rename_i hw; simp only [hw] at h; exact h
/-! ### whatever order is picked -/
/-- Of the operations below number k a world of the class is asked, and no way out. -/
def wpAnyL (P : Program) (md : Region.Mode) (ops : Array Oper) (C : World → Prop) (k : Nat) (Q : Exit → Act → World → Prop) : Nat → Array Bool → Act → World → Prop
  | 0, listed, a, w => Region.ready md ops listed = [] ∧ Q .normal a w
  | fuel + 1, listed, a, w =>
    (Region.ready md ops listed = [] → Q .normal a w) ∧
    ∀ i ∈ Region.ready md ops listed,
      if i < k then lOp P ops i (fun a' w' => C w' ∧ wpAnyL P md ops C k Q fuel (listed.setIfInBounds i true) a' w') a w
      else wpOp P ops Q i (wpAnyL P md ops C k Q fuel (listed.setIfInBounds i true)) a w
theorem wpAny_of_wpAnyL {k : Nat} : ∀ (fuel : Nat) (listed : Array Bool) (a : Act) (w : World), wpAnyL P md ops C k Q fuel listed a w → wpAny P md ops Q fuel listed a w
  | 0, _, _, _, h => h
  | fuel + 1, listed, a, w, h => ⟨h.1, fun i hi => by
    have h1 := h.2 i hi
    split at h1
    · exact wpOp_of_lOp (lOp_mono (fun a' w' h2 => wpAny_of_wpAnyL fuel _ a' w' h2.2) h1)
    · exact wpOp_mono (fun a' w' h2 => wpAny_of_wpAnyL fuel _ a' w' h2) h1⟩
/-- What is listed has all that it waits for listed. -/
def closed (md : Region.Mode) (ops : Array Oper) (listed : Array Bool) : Prop :=
  ∀ j o, ops[j]? = some o → listed.getD j false = true → ∀ e ∈ o.after, Region.binds md e = true → listed.getD e.on false = true
theorem closed_set {listed : Array Bool} {j : Nat} (h : closed md ops listed) (hj : j ∈ Region.ready md ops listed) : closed md ops (listed.setIfInBounds j true) := by
  intro i o hi hl e he hb
  by_cases hij : i = j
  · subst hij
    obtain ⟨_, o', ho', hall⟩ := mem_ready.1 hj
    rw [hi] at ho'
    cases ho'
    exact getD_set_true (hall e he hb)
  · rw [getD_set_ne false (Ne.symm hij)] at hl
    exact getD_set_true (h i o hi hl e he hb)
/-- What these wait for, and they. -/
def ups (md : Region.Mode) (ops : Array Oper) (l : List Nat) : List Nat :=
  l ++ l.flatMap fun j => match ops[j]? with
    | some o => (o.after.toList.filter fun e => Region.binds md e).map (·.on)
    | none => []
def upsN (md : Region.Mode) (ops : Array Oper) : Nat → List Nat → List Nat
  | 0, l => l
  | n + 1, l => upsN md ops n ((ups md ops l).eraseDups)
/-- What an operation waits for. -/
def waits (md : Region.Mode) (ops : Array Oper) (j : Nat) : List Nat :=
  match ops[j]? with
  | some o => (o.after.toList.filter fun e => Region.binds md e).map (·.on)
  | none => []
theorem ups_listed {listed : Array Bool} (hc : closed md ops listed) {l : List Nat} (h : ∀ i ∈ l, listed.getD i false = true) : ∀ i ∈ ups md ops l, listed.getD i false = true := by
  intro i hi
  unfold ups at hi
  rcases List.mem_append.1 hi with hi | hi
  · exact h i hi
  · obtain ⟨j, hj, hi⟩ := List.mem_flatMap.1 hi
    cases ho : ops[j]? with
    | none => rw [ho] at hi; cases hi
    | some o =>
      rw [ho] at hi
      obtain ⟨e, he, rfl⟩ := List.mem_map.1 hi
      obtain ⟨he, hb⟩ := List.mem_filter.1 he
      exact hc j o ho (h j hj) e (by simpa using he) hb
theorem upsN_listed {listed : Array Bool} (hc : closed md ops listed) : ∀ (n : Nat) (l : List Nat), (∀ i ∈ l, listed.getD i false = true) → ∀ i ∈ upsN md ops n l, listed.getD i false = true
  | 0, _, h => h
  | n + 1, _, h => upsN_listed hc n _ (fun i hi => ups_listed hc h i (List.mem_eraseDups.1 hi))
/-- Every operation from number k on waits, by others, for all those below k. -/
def tailB (md : Region.Mode) (ops : Array Oper) (k : Nat) : Bool :=
  (List.range ops.size).all fun j => decide (j < k) || (List.range k).all fun i => (upsN md ops ops.size (waits md ops j)).contains i
theorem tail_waits {k : Nat} (h : tailB md ops k = true) {listed : Array Bool} (hc : closed md ops listed) {i j : Nat} (hj : j ∈ Region.ready md ops listed) (hjk : ¬ j < k) (hik : i < k) : listed.getD i false = true := by
  obtain ⟨_, o, ho, hall⟩ := mem_ready.1 hj
  unfold tailB at h
  rw [List.all_eq_true] at h
  have h1 := h j (by rw [List.mem_range]; exact (Array.getElem?_eq_some_iff.1 ho).1)
  simp only [hjk, decide_false, Bool.false_or] at h1
  rw [List.all_eq_true] at h1
  have h2 := h1 i (by rw [List.mem_range]; exact hik)
  refine upsN_listed hc _ _ ?_ i (by simpa using h2)
  intro i' hi'
  unfold waits at hi'
  rw [ho] at hi'
  obtain ⟨e, he, rfl⟩ := List.mem_map.1 hi'
  obtain ⟨he, hb⟩ := List.mem_filter.1 he
  exact hall e (by simpa using he) hb
/-- A reading that may come up now may be taken first. -/
theorem wpAnyL_first {k : Nat} {i : Nat} {oi : Oper} {v : Value} (hi : ops[i]? = some oi) (hik : i < k) (hsel : ∀ (j : Nat) (o : Oper) cs b, ops[j]? = some o → o.op ≠ .select cs b) (ht : tailB md ops k = true) :
    ∀ (fuel : Nat) (listed : Array Bool) (a : Act) (w : World), closed md ops listed → C w →
      (∀ j oj, ops[j]? = some oj → j ≠ i → listed.getD j true = false → (∀ e ∈ oj.after, Region.binds md e = true → e.on ≠ i) → oi.apart ops oj = true) →
      i ∈ Region.ready md ops listed → ReadsTo P ops C oi v a →
      wpAnyL P md ops C k Q fuel (listed.setIfInBounds i true) (a.put oi.dst v) w → wpAnyL P md ops C k Q (fuel + 1) listed a w := by
  intro fuel
  induction fuel with
  | zero =>
    intro listed a w hcl hC _ hr hy H
    refine ⟨fun h => (by rw [h] at hr; cases hr), fun j hj => ?_⟩
    by_cases hji : j = i
    · subst hji; rw [if_pos hik]; exact hy.lOp hi hC ⟨hC, H⟩
    · have := ready_mono hj hji
      rw [H.1] at this
      cases this
  | succ fuel ih =>
    intro listed a w hcl hC hfree hr hy H
    refine ⟨fun h => (by rw [h] at hr; cases hr), fun j hj => ?_⟩
    by_cases hji : j = i
    · subst hji; rw [if_pos hik]; exact hy.lOp hi hC ⟨hC, H⟩
    · have h1 := H.2 j (ready_mono hj hji)
      have hjk : j < k := by
        rcases Nat.lt_or_ge j k with h' | h'
        · exact h'
        · have h2 := tail_waits ht hcl hj (by omega) hik
          have h0 := (mem_ready.1 hr).1
          rcases Nat.lt_or_ge i listed.size with h' | h'
          · simp [h'] at h0 h2; rw [h0] at h2; cases h2
          · simp [Array.getElem?_eq_none h'] at h2
      rw [if_pos hjk] at h1 ⊢
      obtain ⟨hjun, oj, hoj, hall⟩ := mem_ready.1 hj
      have hnot : ∀ e ∈ oj.after, Region.binds md e = true → e.on ≠ i := fun e he hb heq => by
        have h1 := hall e he hb
        have h0 := (mem_ready.1 hr).1
        rw [heq] at h1
        rcases Nat.lt_or_ge i listed.size with h' | h'
        · simp [h'] at h0 h1; rw [h0] at h1; cases h1
        · simp [Array.getElem?_eq_none h'] at h1
      have h2 := lOp_put hoj (hfree j oj hoj hji hjun hnot) (fun cs b => hsel i oi cs b hi) (fun cs b => hsel j oj cs b hoj) hy h1
      have hfree' : ∀ k ok, ops[k]? = some ok → k ≠ i → (listed.setIfInBounds j true).getD k true = false →
          (∀ e ∈ ok.after, Region.binds md e = true → e.on ≠ i) → oi.apart ops ok = true := fun k ok hk hki hun hno => by
        refine hfree k ok hk hki ?_ hno
        by_cases hjk : j = k
        · subst hjk; exact hjun
        · rw [getD_set_ne true hjk] at hun; exact hun
      refine lOp_mono (fun a' w' h3 => ⟨h3.2.1, ih (listed.setIfInBounds j true) a' w' (closed_set hcl hj) h3.2.1 hfree' (ready_mono hr (Ne.symm hji)) h3.1 ?_⟩) h2
      rw [Array.setIfInBounds_comm _ _ hji]
      exact h3.2.2
/-! ### the stages -/
inductive Stage where
  | reads (l : List Oper)
  | loud (o : Oper)
def wpStages (P : Program) (ops : Array Oper) (C : World → Prop) (Q : Exit → Act → World → Prop) (tail : List Oper) : List Stage → Act → World → Prop
  | [], a, w => wpList P ops Q tail a w
  | .reads l :: rest, a, w => wpQuiet P ops C (fun a' => wpStages P ops C Q tail rest a' w) l a
  | .loud o :: rest, a, w => if Region.wanted o (yielded ops a.tmps) then o.wp P a w (fun a' w' => C w' ∧ wpStages P ops C Q tail rest a' w') noWay else wpStages P ops C Q tail rest (a.put o.dst undef) w
theorem wpStages_nil {tail : List Oper} {a : Act} {w : World} (h : wpList P ops Q tail a w) : wpStages P ops C Q tail [] a w := h
theorem wpStages_reads {tail l : List Oper} {rest : List Stage} {a : Act} {w : World} (h : wpQuiet P ops C (fun a' => wpStages P ops C Q tail rest a' w) l a) : wpStages P ops C Q tail (.reads l :: rest) a w := h
theorem wpStages_loud {tail : List Oper} {o : Oper} {rest : List Stage} {a : Act} {w : World} (hw : Region.wanted o (yielded ops a.tmps) = true)
    (h : ∀ K : Act → World → Prop, (∀ a w, C w → wpStages P ops C Q tail rest a w → K a w) → o.wp P a w K noWay) : wpStages P ops C Q tail (.loud o :: rest) a w := by
  unfold wpStages
  rw [if_pos hw]
  exact h _ fun _ _ h1 h2 => ⟨h1, h2⟩
def flat : List Stage → List (Bool × Oper)
  | [] => []
  | .reads l :: rest => l.map (fun o => (false, o)) ++ flat rest
  | .loud o :: rest => (true, o) :: flat rest
def wpFlat (P : Program) (ops : Array Oper) (C : World → Prop) (Q : Exit → Act → World → Prop) (tail : List Oper) : List (Bool × Oper) → Act → World → Prop
  | [], a, w => wpList P ops Q tail a w
  | (false, o) :: rest, a, w => if Region.wanted o (yielded ops a.tmps) then o.quiet P a C (fun a' => wpFlat P ops C Q tail rest a' w) else wpFlat P ops C Q tail rest (a.put o.dst undef) w
  | (true, o) :: rest, a, w => if Region.wanted o (yielded ops a.tmps) then o.wp P a w (fun a' w' => C w' ∧ wpFlat P ops C Q tail rest a' w') noWay else wpFlat P ops C Q tail rest (a.put o.dst undef) w
theorem wpFlat_reads {tail : List Oper} {rest : List (Bool × Oper)} {w : World} : ∀ (l : List Oper) (a : Act), wpQuiet P ops C (fun a' => wpFlat P ops C Q tail rest a' w) l a → wpFlat P ops C Q tail (l.map (fun o => (false, o)) ++ rest) a w
  | [], _, h => h
  | o :: l, a, h => by
    simp only [List.map_cons, List.cons_append, wpFlat]
    unfold wpQuiet at h
    split
    · rename_i hw; rw [if_pos hw] at h; exact Oper.quiet_mono (fun a' => wpFlat_reads l a') h
    · rename_i hw; rw [if_neg hw] at h; exact wpFlat_reads l _ h
theorem wpQuiet_mono {Q1 Q2 : Act → Prop} (h : ∀ a, Q1 a → Q2 a) : ∀ (l : List Oper) (a : Act), wpQuiet P ops C Q1 l a → wpQuiet P ops C Q2 l a
  | [], _, h1 => h _ h1
  | o :: l, a, h1 => by
    unfold wpQuiet at *
    split
    · rename_i hw; rw [if_pos hw] at h1; exact Oper.quiet_mono (fun a' => wpQuiet_mono h l a') h1
    · rename_i hw; rw [if_neg hw] at h1; exact wpQuiet_mono h l _ h1
theorem wpFlat_of_stages {tail : List Oper} : ∀ (st : List Stage) (a : Act) (w : World), wpStages P ops C Q tail st a w → wpFlat P ops C Q tail (flat st) a w
  | [], _, _, h => h
  | .reads l :: rest, a, w, h => wpFlat_reads l a (wpQuiet_mono (fun a' h => wpFlat_of_stages rest a' w h) l a h)
  | .loud o :: rest, a, w, h => by
    unfold wpStages at h
    simp only [flat, wpFlat]
    split
    · rename_i hw; rw [if_pos hw] at h; exact Oper.wp_mono (fun a' w' h1 => ⟨h1.1, wpFlat_of_stages rest a' w' h1.2⟩) h
    · rename_i hw; rw [if_neg hw] at h; exact wpFlat_of_stages rest _ w h
def chainB (md : Region.Mode) (ops : Array Oper) : Nat → Nat → Array Bool → Bool
  | 0, _, listed => (Region.ready md ops listed).isEmpty
  | n + 1, k, listed => Region.ready md ops listed == [k] && chainB md ops n (k + 1) (listed.setIfInBounds k true)
theorem wpAnyL_tail {k : Nat} : ∀ (l : List Oper) (k' : Nat) (listed : Array Bool) (a : Act) (w : World), k ≤ k' → (∀ j, l[j]? = ops[k' + j]?) → chainB md ops l.length k' listed = true → wpList P ops Q l a w → wpAnyL P md ops C k Q l.length listed a w
  | [], _, _, _, _, _, _, hB, h => ⟨by simpa [chainB] using hB, h⟩
  | o :: l, k', listed, a, w, hk, hl, hB, h => by
    have h0 : ops[k']? = some o := by simpa using (hl 0).symm
    simp only [List.length_cons, chainB, Bool.and_eq_true, beq_iff_eq] at hB
    obtain ⟨hr, hB'⟩ := hB
    refine ⟨fun e => (by rw [hr] at e; cases e), fun i hi => ?_⟩
    rw [hr] at hi
    obtain rfl := List.mem_singleton.1 hi
    rw [if_neg (by omega)]
    have h1 : wpOp P ops Q i (wpList P ops Q l) a w := by unfold wpOp; simp only [h0]; exact h
    exact wpOp_mono (fun a' w' h2 => wpAnyL_tail l (i + 1) _ a' w' (by omega) (fun j => by have := hl (j + 1); simpa [Nat.add_assoc, Nat.add_comm 1 j] using this) hB' h2) h1
def planB (md : Region.Mode) (ops : Array Oper) (k : Nat) : List (Bool × Nat) → Array Bool → Bool
  | [], listed => chainB md ops (ops.size - k) k listed
  | (false, i) :: rest, listed => decide (i < k) && ((ops[i]?).map plainOp).getD false && (Region.ready md ops listed).contains i && Region.free md ops listed i && planB md ops k rest (listed.setIfInBounds i true)
  | (true, i) :: rest, listed => decide (i < k) && Region.ready md ops listed == [i] && planB md ops k rest (listed.setIfInBounds i true)
theorem wpAnyL_plan {k : Nat} (hs : Region.noSelect ops = true) (ht : tailB md ops k = true) (tail : List Oper) (htl : ∀ j, tail[j]? = ops[k + j]?) (hlen : tail.length = ops.size - k) :
    ∀ (p : List (Bool × Nat)) (L : List (Bool × Oper)) (listed : Array Bool) (a : Act) (w : World), closed md ops listed → C w → L.map (fun x => (x.1, some x.2)) = p.map (fun x => (x.1, ops[x.2]?)) →
      planB md ops k p listed = true → wpFlat P ops C Q tail L a w → wpAnyL P md ops C k Q (p.length + tail.length) listed a w
  | [], L, listed, a, w, hcl, hC, hp, hB, h => by
    obtain rfl : L = [] := by simpa using hp
    simp only [planB] at hB
    simp only [List.length_nil, Nat.zero_add]
    rw [← hlen] at hB
    exact wpAnyL_tail tail k listed a w (Nat.le_refl _) htl hB h
  | (b, i) :: p, [], _, _, _, _, _, hp, _, _ => by simp at hp
  | (b, i) :: p, (b', o) :: L, listed, a, w, hcl, hC, hp, hB, h => by
    simp only [List.map_cons, List.cons.injEq, Prod.mk.injEq] at hp
    obtain ⟨⟨rfl, ho⟩, hp⟩ := hp
    rw [show ((b', i) :: p).length + tail.length = (p.length + tail.length) + 1 by simp; omega]
    cases b' with
    | false =>
      simp only [planB, Bool.and_eq_true, decide_eq_true_eq] at hB
      obtain ⟨⟨⟨⟨hik, hpl⟩, hr⟩, hf⟩, hB⟩ := hB
      rw [← ho] at hpl
      have hr' : i ∈ Region.ready md ops listed := by simpa using hr
      simp only [wpFlat] at h
      have key : ∃ v, ReadsTo P ops C o v a ∧ wpFlat P ops C Q tail L (a.put o.dst v) w := by
        by_cases hw : Region.wanted o (yielded ops a.tmps) = true
        · rw [if_pos hw] at h
          obtain ⟨v, h1, h2⟩ := h
          exact ⟨v, readsTo_of_quiet hpl hw h1, h2⟩
        · rw [if_neg hw] at h
          exact ⟨undef, .inr ⟨by simpa using hw, rfl⟩, h⟩
      obtain ⟨v, hy, hK⟩ := key
      exact wpAnyL_first ho.symm hik (Region.noSelect_spec hs) ht (p.length + tail.length) listed a w hcl hC (Region.free_spec ho.symm hf) hr' hy
        (wpAnyL_plan hs ht tail htl hlen p L _ _ w (closed_set hcl hr') hC hp hB hK)
    | true =>
      simp only [planB, Bool.and_eq_true, decide_eq_true_eq, beq_iff_eq] at hB
      obtain ⟨⟨hik, hr⟩, hB⟩ := hB
      refine ⟨fun e => (by rw [hr] at e; cases e), fun j hj => ?_⟩
      have hj' := hj
      rw [hr] at hj
      obtain rfl := List.mem_singleton.1 hj
      rw [if_pos hik]
      unfold lOp
      simp only [← ho]
      simp only [wpFlat] at h
      split
      · rename_i hw
        rw [if_pos hw] at h
        exact Oper.wp_mono (fun a' w' h1 => ⟨h1.1, wpAnyL_plan hs ht tail htl hlen p L _ a' w' (closed_set hcl hj') h1.1 hp hB h1.2⟩) h
      · rename_i hw
        rw [if_neg hw] at h
        exact ⟨hC, wpAnyL_plan hs ht tail htl hlen p L _ _ w (closed_set hcl hj') hC hp hB h⟩
def nthOp : List Oper → Nat → Option Oper
  | [], _ => none
  | o :: _, 0 => some o
  | _ :: l, i + 1 => nthOp l i
theorem nthOp_eq : ∀ (l : List Oper) (i : Nat), nthOp l i = l[i]?
  | [], _ => by simp [nthOp]
  | _ :: _, 0 => by simp [nthOp]
  | _ :: l, i + 1 => by simp [nthOp, nthOp_eq l i]
/-- The whole check. -/
def stagesB (ops : Array Oper) (p : List (Bool × Nat)) (k : Nat) : Bool :=
  Region.noSelect ops && tailB .any ops k && decide (p.length + (ops.size - k) = ops.size) && decide (k ≤ ops.size) && planB .any ops k p (Array.replicate ops.size false)
/-- **ONE WALK SERVES EVERY ORDER**, of a region that reads, calls and writes. -/
theorem wp_region_stages {id : Nat} {l : List Oper} (C : World → Prop) (p : List (Bool × Nat)) (k : Nat) (st : List Stage) (tail : List Oper) {a : Act} {w : World} (hm : P.follows .mixedOrders = true)
    (hB : stagesB l.toArray p k = true) (hp : (flat st).map (fun x => (x.1, some x.2)) = p.map (fun x => (x.1, nthOp l x.2))) (ht : l.drop k = tail)
    (hC : C (w.drewN 1)) (h : wpStages P l.toArray C Q tail st a (w.drewN 1)) : (Code.region id l.toArray true).wp P Q a w := by
  simp only [stagesB, Bool.and_eq_true, decide_eq_true_eq] at hB
  obtain ⟨⟨⟨⟨hs, htb⟩, hlen⟩, hk⟩, hB⟩ := hB
  subst ht
  refine wp_region_any hm (wpAny_of_wpAnyL (C := C) (k := k) _ _ _ _ ?_)
  have h1 := wpAnyL_plan (C := C) (Q := Q) hs htb (l.drop k) (fun j => by simp) (by simp) p (flat st) (Array.replicate l.toArray.size false) a (w.drewN 1)
    (fun j o _ hl => by
      exfalso
      have e : (Array.replicate l.toArray.size false).getD j false = false := by
        rw [Array.getD_eq_getD_getElem?, Array.getElem?_replicate]; split <;> rfl
      rw [e] at hl
      cases hl) hC (by rw [hp]; simp [nthOp_eq]) hB (wpFlat_of_stages st a _ h)
  rw [show p.length + (l.drop k).length = l.toArray.size by simp at hlen ⊢; omega] at h1
  exact h1
end
end Go.Proofs.YtjbagikfogejnaaGreatDoor
/-
Whole numbers in memory: a pointer's block holds the sign and a slice of limbs; limbs, once in a number, are never written.
-/
namespace Go.Proofs.YtjbagikfogejnaaGreatDoor
open Go.RowKit Go.Deep
/-- A block without limbs. -/
def NoNum (w : World) (g : Nat) : Prop := ∀ p : Addr, p.block = g → ∀ n : Int, w.cell? p ≠ some (.int .u64 n)
/-- Since w nothing was written but in the blocks G, which hold no limbs. -/
structure Ext (G : Nat → Prop) (w w' : World) : Prop where
  os : w'.os = w.os
  tape : w'.tape = w.tape
  output : w'.output = w.output
  size : w.heap.size ≤ w'.heap.size
  block : ∀ i, i < w.heap.size → ¬ G i → w'.heap[i]? = w.heap[i]?
  num : ∀ i, G i → i < w.heap.size → NoNum w i
theorem cell_of_block {w w' : World} {p : Addr} (h : w'.heap[p.block]? = w.heap[p.block]?) : w'.cell? p = w.cell? p := by
  unfold World.cell?; rw [h]
theorem NoNum.of_block {w w' : World} {g : Nat} (h : NoNum w g) (e : w'.heap[g]? = w.heap[g]?) : NoNum w' g := by
  intro p hp n
  rw [cell_of_block (w := w) (by rw [hp]; exact e)]
  exact h p hp n
theorem Ext.refl (G : Nat → Prop) (w : World) (h : ∀ i, G i → i < w.heap.size → NoNum w i) : Ext G w w := ⟨rfl, rfl, rfl, Nat.le_refl _, fun _ _ _ => rfl, h⟩
theorem Ext.of_below {w w' : World} (h : Below w.heap.size w w') : Ext (fun _ => False) w w' := ⟨h.os, h.tape, h.output, h.size, fun i hi _ => h.block i hi, fun _ h => h.elim⟩
theorem Ext.below {w w' : World} (h : Ext (fun _ => False) w w') : Below w.heap.size w w' := ⟨h.os, h.tape, h.output, h.size, fun i hi => h.block i hi (fun h => h)⟩
theorem Ext.trans {G H : Nat → Prop} {w w1 w2 : World} (h : Ext G w w1) (k : Ext H w1 w2) : Ext (fun i => G i ∨ H i) w w2 := by
  refine ⟨k.os.trans h.os, k.tape.trans h.tape, k.output.trans h.output, Nat.le_trans h.size k.size, fun i hi hn => ?_, fun i hi hl => ?_⟩
  · exact (k.block i (Nat.lt_of_lt_of_le hi h.size) (fun e => hn (.inr e))).trans (h.block i hi (fun e => hn (.inl e)))
  · rcases hi with hi | hi
    · exact h.num i hi hl
    · by_cases hg : G i
      · exact h.num i hg hl
      · exact (k.num i hi (Nat.lt_of_lt_of_le hl h.size)).of_block (h.block i hl hg).symm
theorem Ext.mono {G H : Nat → Prop} {w w' : World} (h : Ext G w w') (hs : ∀ i, i < w.heap.size → G i → H i) (hn : ∀ i, H i → i < w.heap.size → NoNum w i) : Ext H w w' :=
  ⟨h.os, h.tape, h.output, h.size, fun i hi hx => h.block i hi (fun hg => hx (hs i hi hg)), hn⟩
/-- Only what is new was written. -/
theorem Ext.fresh {G : Nat → Prop} {w w' : World} (h : Ext G w w') (hs : ∀ i, G i → w.heap.size ≤ i) : Below w.heap.size w w' :=
  ⟨h.os, h.tape, h.output, h.size, fun i hi => h.block i hi (fun hg => by have := hs i hg; omega)⟩
theorem Ext.drewN {G : Nat → Prop} {w w' : World} (h : Ext G w w') (n : Nat) : Ext G w (w'.drewN n) := ⟨h.os, h.tape, h.output, h.size, h.block, h.num⟩
/-- The worlds that come to be since w. -/
structure Later (G : Nat → Prop) (w : World) where
  world : World
  ext : Ext G w world
/-- Limbs stay. -/
theorem Lim.ext {G : Nat → Prop} {w w' : World} {B : Nat} {A : Option Addr} {xs : List Nat} (h : Lim w B A xs) (hB : B ≤ w.heap.size) (e : Ext G w w') : Lim w' B A xs := by
  refine ⟨h.small, fun hn => ?_⟩
  obtain ⟨ad, ha, hb, hc⟩ := h.cells hn
  refine ⟨ad, ha, hb, fun j hj => ?_⟩
  have hbj := block_of_add ad j
  rw [cell_of_block (w := w)]
  · exact hc j hj
  · rw [hbj]
    refine e.block _ (by omega) fun hg => ?_
    exact e.num _ hg (by omega) (ad.add 0) (block_of_add ad 0) _ (hc 0 hn)
/-- In block g stands the whole number z. -/
def IntAt (w : World) (g : Nat) (z : Int) : Prop :=
  ∃ A c, w.heap[g]? = some (.cells #[.bool (decide (z < 0)), .slice A (limbs z.natAbs).length c] 208) ∧ (limbs z.natAbs).length ≤ c ∧ Lim w w.heap.size A (limbs z.natAbs)
theorem noNum_of_int {w : World} {g : Nat} {b : Bool} {A : Option Addr} {l c : Nat} (h : w.heap[g]? = some (.cells #[.bool b, .slice A l c] 208)) : NoNum w g := by
  intro p hp n
  obtain ⟨pb, off, m⟩ := p
  obtain rfl : pb = g := hp
  unfold World.cell?
  simp only [h]
  split
  · simp
  · rcases off with _ | _ | off <;> simp
theorem IntAt.num {w : World} {g : Nat} {z : Int} (h : IntAt w g z) : NoNum w g := by
  obtain ⟨A, c, h, _⟩ := h
  exact noNum_of_int h
theorem IntAt.lt {w : World} {g : Nat} {z : Int} (h : IntAt w g z) : g < w.heap.size := by
  obtain ⟨A, c, h, _⟩ := h
  exact (Array.getElem?_eq_some_iff.1 h).1
theorem IntAt.ext {G : Nat → Prop} {w w' : World} {g : Nat} {z : Int} (h : IntAt w g z) (e : Ext G w w') (hg : ¬ G g) : IntAt w' g z := by
  have hl := h.lt
  obtain ⟨A, c, h, hc, hlim⟩ := h
  exact ⟨A, c, by rw [e.block g hl hg]; exact h, hc, (hlim.ext (Nat.le_refl _) e).more e.size⟩
theorem IntAt.below {w w' : World} {g : Nat} {z : Int} (h : IntAt w g z) (e : Below w.heap.size w w') : IntAt w' g z := h.ext (Ext.of_below e) (fun h => h)
theorem IntAt.drewN {w : World} {g : Nat} {z : Int} (h : IntAt w g z) (n : Nat) : IntAt (w.drewN n) g z := by
  obtain ⟨A, c, h, hc, hlim⟩ := h
  exact ⟨A, c, h, hc, hlim.drewN n⟩
/-- 'new(Int)'. -/
theorem IntAt.fresh (w : World) : IntAt (w.alloc (.cells #[.bool false, .slice none 0 0] 208)) w.heap.size 0 :=
  ⟨none, 0, by rw [heap_alloc_new]; simp [limbs_zero], by simp [limbs_zero], by simpa [limbs_zero] using Lim.nil _ _ _⟩
/-- The number of a sign and a size. -/
def signed (neg : Bool) (n : Nat) : Int := if neg then -(n : Int) else n
theorem signed_natAbs (b : Bool) (n : Nat) : (signed b n).natAbs = n := by cases b <;> simp [signed]
theorem signed_neg (b : Bool) (n : Nat) : decide (signed b n < 0) = (b && decide (n ≠ 0)) := by
  cases b
  · show decide ((n : Int) < 0) = false
    exact decide_eq_false (by omega)
  · show decide (-(n : Int) < 0) = (true && decide (n ≠ 0))
    rw [Bool.true_and, decide_eq_decide]; omega
theorem signed_of (z : Int) : signed (decide (z < 0)) z.natAbs = z := by
  by_cases h : z < 0
  · rw [decide_eq_true h]; show -(z.natAbs : Int) = z; omega
  · rw [decide_eq_false h]; show (z.natAbs : Int) = z; omega
theorem some_limbs (n : Nat) : decide (0 < (limbs n).length) = decide (n ≠ 0) := by
  rw [decide_eq_decide]
  constructor
  · intro h e; subst e; simp [limbs_zero] at h
  · intro h; exact List.length_pos_iff.2 fun e => h (limbs_eq_nil.1 e)
theorem cell0_int {w : World} {g : Nat} {b : Bool} {A : Option Addr} {l c : Nat} (h : w.heap[g]? = some (.cells #[.bool b, .slice A l c] 208)) : w.cell? ⟨g, 0, none⟩ = some (.bool b) := by
  unfold World.cell?; simp [h]
theorem cell1_int {w : World} {g : Nat} {b : Bool} {A : Option Addr} {l c : Nat} (h : w.heap[g]? = some (.cells #[.bool b, .slice A l c] 208)) : w.cell? ⟨g, 1, none⟩ = some (.slice A l c) := by
  unfold World.cell?; simp [h]
/-- No block. -/
def Nix : Nat → Prop := fun _ => False
theorem nix_drawn (w : World) : Ext Nix w (w.drewN 1) := (Ext.refl Nix w (fun _ h => h.elim)).drewN 1
instance (w : World) : Nonempty (Later Nix w) := ⟨⟨w, Ext.refl Nix w (fun _ h => h.elim)⟩⟩
theorem Later.sign {w : World} {g : Nat} {b : Bool} {A : Option Addr} {l c : Nat} (h : w.heap[g]? = some (.cells #[.bool b, .slice A l c] 208)) (δ : Later Nix w) : δ.world.cell? ⟨g, 0, none⟩ = some (.bool b) :=
  cell0_int (by rw [δ.ext.block g (Array.getElem?_eq_some_iff.1 h).1 (fun h => h)]; exact h)
theorem Later.size {w : World} {g : Nat} {b : Bool} {A : Option Addr} {l c : Nat} (h : w.heap[g]? = some (.cells #[.bool b, .slice A l c] 208)) (δ : Later Nix w) : δ.world.cell? ⟨g, 1, none⟩ = some (.slice A l c) :=
  cell1_int (by rw [δ.ext.block g (Array.getElem?_eq_some_iff.1 h).1 (fun h => h)]; exact h)
theorem Ext.later {w w1 w2 : World} (h : Ext Nix w w1) (k : Ext (fun _ => False) w1 w2) : Ext Nix w w2 :=
  (h.trans k).mono (fun _ _ hi => hi.elim (fun h => h) (fun h => h)) (fun _ h => h.elim)
/-- After a call that wrote nothing old, one that wrote g. -/
theorem Ext.after {g : Nat} {w w1 w2 : World} (h : Ext Nix w w1) (k : Ext (· = g) w1 w2) (hn : NoNum w g) : Ext (· = g) w w2 :=
  (h.trans k).mono (fun i _ hi => hi.elim (fun h => h.elim) (fun h => h)) (fun i hi _ => by subst hi; exact hn)
end Go.Proofs.YtjbagikfogejnaaGreatDoor
/- The methods of whole numbers: what each leaves in its receiver. -/
namespace Go.Proofs.YtjbagikfogejnaaGreatDoor
open Go.RowKit Go.Deep
theorem signed_not (x : Int) : signed (!(decide (x < 0))) x.natAbs = -x := by
  unfold signed
  by_cases h : x < 0 <;> simp [h] <;> omega
/-- A source: what the walk reads of it. -/
theorem IntAt.open {w : World} {g : Nat} {x : Int} (h : IntAt w g x) : ∃ s A l c, s = decide (x < 0) ∧ l = (limbs x.natAbs).length ∧ w.heap[g]? = some (.cells #[.bool s, .slice A l c] 208) ∧ l ≤ c ∧ Lim w w.heap.size A (limbs x.natAbs) := by
  obtain ⟨A, c, h1, h2, h3⟩ := h
  exact ⟨_, A, _, c, rfl, rfl, h1, h2, h3⟩
theorem Lim.since {w w1 : World} {A : Option Addr} {xs : List Nat} (h : Lim w w.heap.size A xs) (e : Ext Nix w w1) : Lim w1 w1.heap.size A xs := (h.ext (Nat.le_refl _) e).more e.size
theorem limbs_mono {m n : Nat} (h : m ≤ n) : (limbs m).length ≤ (limbs n).length := lc_mono h
end Go.Proofs.YtjbagikfogejnaaGreatDoor
/- More methods of whole numbers. -/
namespace Go.Proofs.YtjbagikfogejnaaGreatDoor
open Go.RowKit Go.Deep
theorem Ext.alloc (w : World) (o : Obj) : Ext Nix w (w.alloc o) := Ext.of_below ((Below.refl _ w).alloc (Nat.le_refl _) o)
theorem Ext.hidden {g : Nat} {w wa w1 : World} (h : Ext Nix w wa) (k : Ext (· = g) wa w1) (hg : w.heap.size ≤ g) : Ext Nix w w1 :=
  Ext.of_below ((h.trans k).fresh fun i hi => hi.elim (fun h => h.elim) (fun h => by omega))
theorem wrap_minus {k : Nat} (h1 : 0 < k) (h2 : k ≤ 9223372036854775808) : ∃ r : Nat, IntKind.u64.wrap (-(k : Int)) = (r : Int) ∧ IntKind.u64.wrap (-(r : Int)) = (k : Int) :=
  ⟨18446744073709551616 - k, by rw [IntKind.wrap_u64]; omega, by rw [IntKind.wrap_u64]; omega⟩
theorem wrap_plus {k : Nat} (h2 : k < 9223372036854775808) : IntKind.u64.wrap (k : Int) = (k : Int) := by rw [IntKind.wrap_u64]; omega
/-- One limb, new. -/
theorem Lim.one {w : World} {k : Nat} (hk : k < W64) : Lim (w.alloc (.cells #[.int .u64 (k : Int)] 41)) (w.heap.size + 1) (some ⟨w.heap.size, 0, none⟩) [k] :=
  ⟨Small.one hk, fun _ => ⟨_, rfl, by simp, fun j hj => by
    have e : j = 0 := by simpa using hj
    subst e
    rw [add_plain, cell_of_row _ _ _ _ _ (0, 0) (heap_alloc_new w _)]; rfl⟩⟩
theorem signed_quo (x y : Int) : signed (!(decide (x < 0) == decide (y < 0))) (x.natAbs / y.natAbs) = x.tdiv y := by
  have hx := signed_of x
  have hy := signed_of y
  generalize decide (x < 0) = s at *
  generalize decide (y < 0) = t at *
  generalize x.natAbs = m at *
  generalize y.natAbs = n at *
  subst hx; subst hy
  cases s <;> cases t <;> simp [signed, Int.neg_tdiv, Int.tdiv_neg]
theorem signed_rem (x y : Int) : signed (decide (x < 0)) (x.natAbs % y.natAbs) = x.tmod y := by
  have hx := signed_of x
  have hy := signed_of y
  generalize decide (x < 0) = s at *
  generalize decide (y < 0) = t at *
  generalize x.natAbs = m at *
  generalize y.natAbs = n at *
  subst hx; subst hy
  cases s <;> cases t <;> simp [signed, Int.neg_tmod, Int.tmod_neg, Int.tmod_eq_emod_of_nonneg]
theorem Ext.either {g h : Nat} {w w1 w2 w3 : World} (e0 : Ext Nix w w1) (e1 : Ext (· = g) w1 w2) (e2 : Ext (· = h) w2 w3) (hg : NoNum w g) (hh : NoNum w h) : Ext (fun i => i = g ∨ i = h) w w3 :=
  ((e0.trans e1).trans e2).mono (fun i _ hi => hi.elim (fun hi => hi.elim (fun h => h.elim) .inl) .inr) (fun i hi _ => by rcases hi with rfl | rfl <;> assumption)
/-- Which is less, of whole numbers. -/
def cmpZ (x y : Int) : Int := if x < y then -1 else if y < x then 1 else 0
end Go.Proofs.YtjbagikfogejnaaGreatDoor
/- Whole numbers by limbs: Bits, SetBits. -/
namespace Go.Proofs.YtjbagikfogejnaaGreatDoor
open Go.RowKit Go.Deep
theorem later_cell {w : World} {p : Addr} {v : Value} (h : w.cell? p = some v) (δ : Later Nix w) : δ.world.cell? p = some v := by
  rw [cell_of_block (w := w) (δ.ext.block _ (World.block_lt_of_cell? w p h) (fun h => h))]; exact h
end Go.Proofs.YtjbagikfogejnaaGreatDoor
/- Polynomials in memory: a slice of records (sign, limbs), only read. -/
namespace Go.Proofs.YtjbagikfogejnaaGreatDoor
open Go.RowKit Go.Deep
/-- A number as it is handed in: the sign and the limbs. -/
abbrev Raw := Bool × List Nat
/-- At the slice's address A stand the records xs, below block B. -/
structure Poly (w : World) (B : Nat) (A : Option Addr) (xs : List Raw) : Prop where
  cells : 0 < xs.length → ∃ ad, A = some ad ∧ ad.block < B ∧ ∀ j, j < xs.length → ∃ (Am : Option Addr) (l c : Nat),
    w.cell? (ad.add (j * 2)) = some (.bool (xs.getD j (false, [])).1) ∧ w.cell? ⟨(ad.add (j * 2)).block, (ad.add (j * 2)).off + 1, none⟩ = some (.slice Am l c) ∧
    l = (xs.getD j (false, [])).2.length ∧ l ≤ c ∧ Lim w B Am (xs.getD j (false, [])).2
section
variable {w w' : World} {B : Nat} {A : Option Addr} {xs : List Raw}
theorem Poly.nil (w : World) (B : Nat) (A : Option Addr) : Poly w B A [] := ⟨fun h => absurd h (by simp)⟩
theorem Poly.at_ (h : Poly w B A xs) {k : Nat} (hk : k < xs.length) : ∃ ad Am l c, A = some ad ∧ ad.block < B ∧
    w.cell? (ad.add (k * 2)) = some (.bool (xs.getD k (false, [])).1) ∧ w.cell? ⟨(ad.add (k * 2)).block, (ad.add (k * 2)).off + 1, none⟩ = some (.slice Am l c) ∧
    l = (xs.getD k (false, [])).2.length ∧ l ≤ c ∧ Lim w B Am (xs.getD k (false, [])).2 := by
  obtain ⟨ad, e, hb, hc⟩ := h.cells (by omega)
  obtain ⟨Am, l, c, h1⟩ := hc k hk
  exact ⟨ad, Am, l, c, e, hb, h1⟩
theorem Poly.below (h : Poly w B A xs) (hb : Below B w w') : Poly w' B A xs :=
  ⟨fun hn => by
    obtain ⟨ad, e, hB, hc⟩ := h.cells hn
    refine ⟨ad, e, hB, fun j hj => ?_⟩
    obtain ⟨Am, l, c, h1, h2, h3, h4, h5⟩ := hc j hj
    exact ⟨Am, l, c, by rw [hb.cell (by rw [block_of_add]; exact hB)]; exact h1, by rw [hb.cell (by show (ad.add (j * 2)).block < B; rw [block_of_add]; exact hB)]; exact h2, h3, h4, h5.below hb⟩⟩
theorem Poly.drewN (h : Poly w B A xs) (n : Nat) : Poly (w.drewN n) B A xs := h.below ⟨rfl, rfl, rfl, Nat.le_refl _, fun _ _ => rfl⟩
theorem Poly.more {B' : Nat} (h : Poly w B A xs) (hB : B ≤ B') : Poly w B' A xs :=
  ⟨fun hn => by
    obtain ⟨ad, e, hb, hc⟩ := h.cells hn
    refine ⟨ad, e, by omega, fun j hj => ?_⟩
    obtain ⟨Am, l, c, h1, h2, h3, h4, h5⟩ := hc j hj
    exact ⟨Am, l, c, h1, h2, h3, h4, h5.more hB⟩⟩
end
/-- Is it a number as the document has it? -/
def rightInt (x : Raw) : Bool := (x.2.length == 0 && !x.1) || (x.2.length != 0 && decide (x.2.length ≤ 4096) && (x.2.getD (x.2.length - 1) 0 != 0))
theorem int_bne (x : Nat) : ((x : Int) != 0) = (x != 0) := by
  cases x with
  | zero => rfl
  | succ n => rfl
set_option maxRecDepth 100000 in
theorem limb_right (b : Bool) (A : Option Addr) (l c : Nat) (xs : List Nat) (w : World) {B : Nat} (hB : B ≤ w.heap.size) (h1 : Lim w B A xs) (hl : l = xs.length) :
    Calls Tryz.prog 50 #[.agg #[.bool b, .slice A l c]] w fun e w' => e = .returned (.bool (rightInt (b, xs))) ∧ Below w.heap.size w w' := by
  subst hl
  have hwo : Below w.heap.size w (w.alloc (.cells #[.bool b, .slice A xs.length c] 24)) := (Below.refl _ w).alloc (Nat.le_refl _) _
  by_cases h0 : xs.length = 0
  · obtain rfl := List.eq_nil_of_length_eq_zero h0
    have HE := Lib.hid (show rightInt (b, []) = !b by simp [rightInt])
    rw [HE.out]
    cases b
    all_goals
      go_enter Tryz.func50, Tryz.ntmps50
      go_wp2_with fail
      go_ret
      exact ⟨rfl, hwo⟩
  · have t0 : ((xs.length : Int) == 0) = false := beq_eq_false_iff_ne.2 (by omega)
    have hp : xs.length - 1 < xs.length := by omega
    by_cases h4 : xs.length ≤ 4096
    · have tI : (xs.length : Int) ≤ 4096 := by omega
      obtain ⟨ad, rfl, hb, hcell⟩ := (h1.below (hwo.mono hB)).at_ hp
      obtain ⟨x, hx⟩ : ∃ x, xs.getD (xs.length - 1) 0 = x := ⟨_, rfl⟩
      rw [hx] at hcell
      have HE := Lib.hid (show rightInt (b, xs) = (x != 0) by
        have e0 : (xs.length == 0) = false := beq_eq_false_iff_ne.2 h0
        unfold rightInt
        simp only [e0, bne, hx, decide_eq_true h4, Bool.false_and, Bool.false_or, Bool.not_false, Bool.true_and])
      rw [HE.out]
      obtain ⟨m, hm⟩ : ∃ m, xs.length - 1 = m := ⟨_, rfl⟩
      have e1 : ((xs.length : Int) - 1) = (m : Int) := by omega
      have hml : (m : Int) < (xs.length : Int) := by omega
      rw [hm] at hcell
      have tp : (0 : Int) < (xs.length : Int) := by omega
      clear h0 hp h4 hx hm
      go_enter Tryz.func50, Tryz.ntmps50
      go_wp2_with fail
      go_ret
      exact ⟨by rw [← int_bne]; rfl, hwo⟩
    · have tI : (4096 : Int) < (xs.length : Int) := by omega
      have HE := Lib.hid (show rightInt (b, xs) = false by simp [rightInt, h4]; intro h; exact absurd (by rw [h]; rfl) h0)
      rw [HE.out]
      have tp : (0 : Int) < (xs.length : Int) := by omega
      clear h0 hp h4
      go_enter Tryz.func50, Tryz.ntmps50
      go_wp2_with fail
      go_ret
      exact ⟨rfl, hwo⟩
/-- Is it a polynomial as the document has it? -/
def rightPoly (xs : List Raw) : Bool := decide (xs.length ≤ 4096) && xs.all rightInt && (xs.length == 0 || decide (0 < (xs.getD (xs.length - 1) (false, [])).2.length))
theorem all_take_succ {xs : List Raw} {k : Nat} (hk : k < xs.length) : (xs.take (k + 1)).all rightInt = ((xs.take k).all rightInt && rightInt (xs.getD k (false, []))) := by
  have e : xs.getD k (false, []) = xs[k] := by simp [hk]
  rw [List.take_succ_eq_append_getElem hk, List.all_append, e]; simp
theorem not_all_of {xs : List Raw} {k : Nat} (hk : k < xs.length) (h : rightInt (xs.getD k (false, [])) = false) : xs.all rightInt = false := by
  have e : xs.getD k (false, []) = xs[k] := by simp [hk]
  rw [List.all_eq_false]
  exact ⟨xs[k], List.getElem_mem hk, by rw [← e, h]; simp⟩
end Go.Proofs.YtjbagikfogejnaaGreatDoor
/- The package series: may, nought, unit. -/
namespace Go.Proofs.YtjbagikfogejnaaGreatDoor
open Go.RowKit Go.Deep
/-- At the slice's address A stand slices of records. -/
structure Polys (w : World) (B : Nat) (A : Option Addr) (xss : List (List Raw)) : Prop where
  cells : 0 < xss.length → ∃ ad, A = some ad ∧ ad.block < B ∧ ∀ j, j < xss.length → ∃ (Am : Option Addr) (l c : Nat),
    w.cell? (ad.add j) = some (.slice Am l c) ∧ l = (xss.getD j []).length ∧ l ≤ c ∧ Poly w B Am (xss.getD j [])
theorem Polys.at_ {w : World} {B : Nat} {A : Option Addr} {xss : List (List Raw)} (h : Polys w B A xss) {k : Nat} (hk : k < xss.length) : ∃ ad Am l c, A = some ad ∧ ad.block < B ∧
    w.cell? (ad.add k) = some (.slice Am l c) ∧ l = (xss.getD k []).length ∧ l ≤ c ∧ Poly w B Am (xss.getD k []) := by
  obtain ⟨ad, e, hb, hc⟩ := h.cells (by omega)
  obtain ⟨Am, l, c, h1⟩ := hc k hk
  exact ⟨ad, Am, l, c, e, hb, h1⟩
theorem Polys.below {w w' : World} {B : Nat} {A : Option Addr} {xss : List (List Raw)} (h : Polys w B A xss) (hb : Below B w w') : Polys w' B A xss :=
  ⟨fun hn => by
    obtain ⟨ad, e, hB, hc⟩ := h.cells hn
    refine ⟨ad, e, hB, fun j hj => ?_⟩
    obtain ⟨Am, l, c, h1, h3, h4, h5⟩ := hc j hj
    exact ⟨Am, l, c, by rw [hb.cell (by rw [block_of_add]; exact hB)]; exact h1, h3, h4, h5.below hb⟩⟩
/-- What is refused ahead of all reckoning. -/
def mayE (terms : Int) (xss : List (List Raw)) : Int := if terms < 0 then 2 else if xss.all rightPoly then (if 4096 < terms then 3 else 0) else 2
/-- Is the number at this place nought? -/
def noughtAt (xs : List Raw) (k : Nat) : Bool := (xs.getD k (false, [])).2.length == 0
/-- Is the number at this place 1 or -1? -/
def unitAt (xs : List Raw) (k : Nat) : Bool := (xs.getD k (false, [])).2.length == 1 && (xs.getD k (false, [])).2.getD 0 0 == 1
end Go.Proofs.YtjbagikfogejnaaGreatDoor
/- Plain laws of power series of whole numbers: quotients, their sizes. -/
namespace Go.Proofs.YtjbagikfogejnaaGreatDoor
/-- What is left of a behind k steps of the division at place i: o the quotient so far. -/
def subs (a : Int) (o b : Nat → Int) (i : Nat) : Nat → Int
  | 0 => a
  | k + 1 => subs a o b i k - o (i - (k + 1)) * b (k + 1)
/-- The first n numbers of the quotient, as the program reckons them. -/
def overL (a b : Nat → Int) : Nat → List Int
  | 0 => []
  | n + 1 => overL a b n ++ [let r := subs (a n) (fun j => (overL a b n).getD j 0) b n n; if b 0 < 0 then -r else r]
/-- The number at place i. -/
def overZ (a b : Nat → Int) (i : Nat) : Int := (overL a b (i + 1)).getD i 0
/-! ### sizes -/
/-- The sum of the first i powers behind 1. -/
def geo (E : Nat) : Nat → Nat
  | 0 => 1
  | i + 1 => geo E i + E ^ (i + 1)
end Go.Proofs.YtjbagikfogejnaaGreatDoor
/- Plain laws: what is told of a row of whole numbers. -/
namespace Go.Proofs.YtjbagikfogejnaaGreatDoor
/-- How many of the first n numbers stand up to the last that is not 0. -/
def topZ (z : Nat → Int) : Nat → Nat
  | 0 => 0
  | n + 1 => if z n = 0 then topZ z n else n + 1
/-- A whole number as it is told. -/
def rawOf (x : Int) : Bool × List Nat := (decide (x < 0), limbs x.natAbs)
/-- What is told of n numbers: nothing, if one of them is too long. -/
def toldZ (z : Nat → Int) (n : Nat) : List (Bool × List Nat) × Int :=
  if (List.range (topZ z n)).any (fun i => decide (262144 < nbits (z i).natAbs)) then ([], 3) else ((List.range (topZ z n)).map (fun i => rawOf (z i)), 0)
/-! ### products, cut off -/
/-- The number at place m of a's first i numbers times b. -/
def convS (a b : Nat → Int) : Nat → Nat → Int
  | 0, _ => 0
  | i + 1, m => convS a b i m + (if i ≤ m then a i * b (m - i) else 0)
/-- The product's number at place m. -/
def mulZ (a b : Nat → Int) (m : Nat) : Int := convS a b (m + 1) m
/-- a with b in the place of x, by Horner: behind k steps of K. -/
def hornZ (a b : Nat → Int) (K : Nat) : Nat → Nat → Int
  | 0, _ => 0
  | k + 1, m => mulZ (hornZ a b K k) b m + (if m = 0 then a (K - 1 - k) else 0)
/-- b to the power k, from a on. -/
def powZ (a b : Nat → Int) : Nat → Nat → Int
  | 0 => a
  | k + 1 => mulZ (powZ a b k) b
/-- The series that undoes p, by Lagrange: f is x over p. -/
def lagZ (a f : Nat → Int) (m : Nat) : Int := if m = 0 then 0 else (powZ a f m (m - 1)).tdiv m
/-! ### the division as the document has it -/
/-- What is left of a behind j steps from the lowest place on. -/
def refS (a : Int) (o b : Nat → Int) (i : Nat) : Nat → Int
  | 0 => a
  | j + 1 => refS a o b i j - o j * b (i - j)
end Go.Proofs.YtjbagikfogejnaaGreatDoor
/- Records of a sign and limbs, in memory and as values. -/
namespace Go.Proofs.YtjbagikfogejnaaGreatDoor
open Go.RowKit Go.Deep
/-- A value is the record of a sign and limbs; the limbs are nil or lie in a block from base on, their room too. -/
def RawAt (w : World) (base : Nat) (v : Value) (x : Raw) : Prop :=
  ∃ A l c, v = .agg #[.bool x.1, .slice A l c] ∧ l = x.2.length ∧ l ≤ c ∧ Lim w w.heap.size A x.2 ∧ ((A = none ∧ c = 0) ∨ ∃ g cs, A = some ⟨g, 0, none⟩ ∧ base ≤ g ∧ w.heap[g]? = some (.cells cs 41 (0, 0)) ∧ c ≤ cs.size)
/-- The limbs' slice lies apart from what was before base. -/
def Fresh (w : World) (base : Nat) (A : Option Addr) (c : Nat) : Prop := (A = none ∧ c = 0) ∨ ∃ g cs, A = some ⟨g, 0, none⟩ ∧ base ≤ g ∧ w.heap[g]? = some (.cells cs 41 (0, 0)) ∧ c ≤ cs.size
theorem Fresh.cut {w : World} {base : Nat} {A : Option Addr} {c c' : Nat} (h : Fresh w base A c) (hc : c' ≤ c) : Fresh w base A c' := by
  rcases h with ⟨h1, h2⟩ | ⟨g, cs, h1, h2, h3, h4⟩
  · exact .inl ⟨h1, by omega⟩
  · exact .inr ⟨g, cs, h1, h2, h3, by omega⟩
theorem Fresh.below {w w' : World} {base : Nat} {A : Option Addr} {c : Nat} (h : Fresh w base A c) (hb : Below w.heap.size w w') : Fresh w' base A c := by
  rcases h with h | ⟨g, cs, h1, h2, h3, h4⟩
  · exact .inl h
  · exact .inr ⟨g, cs, h1, h2, by rw [hb.block g (Array.getElem?_eq_some_iff.1 h3).1]; exact h3, h4⟩
theorem Fresh.since {w : World} {base base' : Nat} {A : Option Addr} {c : Nat} (h : Fresh w base A c) (hb : base' ≤ base) : Fresh w base' A c := by
  rcases h with h | ⟨g, cs, h1, h2, h3, h4⟩
  · exact .inl h
  · exact .inr ⟨g, cs, h1, by omega, h3, h4⟩
theorem Own.fresh {w : World} {base : Nat} {A : Option Addr} {l c : Nat} {xs : List Nat} (h : Own w base (.slice A l c) xs) : Fresh w base A c := by
  rcases h.own.2 with ⟨hv, _⟩ | ⟨g, cap, cur, hv, hg, hh, hnc, h63, hcap, hpre⟩
  · injection hv with h1 h2 h3
    exact .inl ⟨h1, h3⟩
  · injection hv with h1 h2 h3
    exact .inr ⟨g, cur, h1, hg, hh, by omega⟩
theorem RawAt.of {w w' : World} {base : Nat} {A : Option Addr} {l c : Nat} {x : Raw} (h : Lim w w.heap.size A x.2) (hf : Fresh w base A c) (hl : l = x.2.length) (hc : l ≤ c) (hb : Below w.heap.size w w') : RawAt w' base (.agg #[.bool x.1, .slice A l c]) x :=
  ⟨A, l, c, rfl, hl, hc, (h.below hb).more hb.size, hf.below hb⟩
theorem RawAt.zero (w : World) (base : Nat) : RawAt w base (.agg #[.bool false, .slice none 0 0]) (false, []) := ⟨none, 0, 0, rfl, rfl, Nat.le_refl _, Lim.nil _ _ _, .inl ⟨rfl, rfl⟩⟩
theorem RawAt.below {w w' : World} {base : Nat} {v : Value} {x : Raw} (h : RawAt w base v x) (hb : Below w.heap.size w w') : RawAt w' base v x := by
  obtain ⟨A, l, c, rfl, hl, hc, hlim, hf⟩ := h
  exact RawAt.of hlim hf hl hc hb
theorem RawAt.since {w : World} {base base' : Nat} {v : Value} {x : Raw} (h : RawAt w base v x) (hb : base' ≤ base) : RawAt w base' v x := by
  obtain ⟨A, l, c, rfl, hl, hc, hlim, hf⟩ := h
  exact ⟨A, l, c, rfl, hl, hc, hlim, Fresh.since hf hb⟩
/-- A record's box. -/
def Box2 (w : World) (g : Nat) (x y : Value) : Prop := w.heap[g]? = some (.cells #[x, y] 24 (0, 0))
section
variable {w w' : World} {g : Nat} {x y a b : Value}
theorem Box2.cell0 (h : Box2 w g x y) : w.cell? ⟨g, 0, none⟩ = some x := by rw [cell_of_row w g 0 _ _ (0, 0) h]; rfl
theorem Box2.cell1 (h : Box2 w g x y) : w.cell? ⟨g, 1, none⟩ = some y := by rw [cell_of_row w g 1 _ _ (0, 0) h]; rfl
theorem Box2.free (h : Box2 w g x y) (k : Nat) : w.frozen? ⟨g, k, none⟩ = false := by unfold Box2 at h; simp [World.frozen?, h]
theorem Box2.lt (h : Box2 w g x y) : g < w.heap.size := (Array.getElem?_eq_some_iff.1 h).1
theorem Box2.store (h : Box2 w g x y) : Box2 ((w.setCell ⟨g, 0, none⟩ a).setCell ⟨g, 1, none⟩ b) g a b := by
  unfold Box2 at h ⊢
  simp [World.setCell, Array.getElem?_modify, h]
theorem Box2.store1 (h : Box2 w g x y) : Box2 (w.setCell ⟨g, 1, none⟩ b) g x b := by
  unfold Box2 at h ⊢
  simp [World.setCell, Array.getElem?_modify, h]
theorem Box2.below {B : Nat} (h : Box2 w g x y) (hb : Below B w w') (hg : g < B) : Box2 w' g x y := by
  unfold Box2 at h ⊢
  rw [hb.block g hg]; exact h
theorem store2_below {B : Nat} (hb : Below B w w') (hg : B ≤ g) : Below B w ((w'.setCell ⟨g, 0, none⟩ a).setCell ⟨g, 1, none⟩ b) :=
  (hb.setCell (p := ⟨g, 0, none⟩) hg _).setCell (p := ⟨g, 1, none⟩) hg _
/-- A result's box, new. -/
theorem box_new (w : World) (x y : Value) : ∃ W0 r, w.alloc (.cells #[x, y] 24) = W0 ∧ w.heap.size = r ∧ Box2 W0 r x y ∧ Below r w W0 ∧ W0.heap.size = r + 1 :=
  ⟨_, _, rfl, rfl, heap_alloc_new w _, (Below.refl _ _).alloc (Nat.le_refl _) _, by simp⟩
end
theorem Box2.noNum {w : World} {g : Nat} {x y : Value} (h : Box2 w g x y) (hx : ∀ k : Int, x ≠ .int .u64 k) (hy : ∀ k : Int, y ≠ .int .u64 k) : NoNum w g := by
  intro p hp n
  obtain ⟨pb, off, m⟩ := p
  obtain rfl : pb = g := hp
  unfold Box2 at h
  unfold World.cell?
  simp only [h]
  split
  · simp
  · rcases off with _ | _ | off
    · simpa using hx n
    · simpa using hy n
    · simp
theorem Box2.nums {w : World} {g : Nat} {b : Bool} {A : Option Addr} {l c : Nat} (h : Box2 w g (.bool b) (.slice A l c)) : NoNum w g := h.noNum (fun _ => by simp) (fun _ => by simp)
theorem ext_store2 {w : World} {g : Nat} {a b : Value} (h : NoNum w g) : Ext (· = g) w ((w.setCell ⟨g, 0, none⟩ a).setCell ⟨g, 1, none⟩ b) := by
  refine ⟨rfl, rfl, rfl, by simp, fun i hi hn => ?_, fun i hi _ => by subst hi; exact h⟩
  rw [Below.heap_setCell _ _ _ i (by simpa using hn), Below.heap_setCell _ _ _ i (by simpa using hn)]
theorem Fresh.ext {G : Nat → Prop} {w w' : World} {base : Nat} {A : Option Addr} {c : Nat} (h : Fresh w base A c) (e : Ext G w w') (hG : ∀ i, G i → i < base) : Fresh w' base A c := by
  rcases h with h | ⟨g, cs, h1, h2, h3, h4⟩
  · exact .inl h
  · exact .inr ⟨g, cs, h1, h2, by rw [e.block g (Array.getElem?_eq_some_iff.1 h3).1 (fun hg => by have := hG g hg; omega)]; exact h3, h4⟩
theorem RawAt.ext {G : Nat → Prop} {w w' : World} {base : Nat} {v : Value} {x : Raw} (h : RawAt w base v x) (e : Ext G w w') (hG : ∀ i, G i → i < base) : RawAt w' base v x := by
  obtain ⟨A, l, c, rfl, hl, hc, hlim, hf⟩ := h
  exact ⟨A, l, c, rfl, hl, hc, (hlim.ext (Nat.le_refl _) e).more e.size, Fresh.ext hf e hG⟩
/-- Its parts by name, what is known of them put away. -/
theorem RawAt.open {w : World} {base : Nat} {v : Value} {x : Raw} (h : RawAt w base v x) : ∃ b A l c, v = .agg #[.bool b, .slice A l c] ∧ Hid (RawAt w base (.agg #[.bool b, .slice A l c]) x) := by
  obtain ⟨A, l, c, rfl, hl, hc, hlim, hf⟩ := h
  exact ⟨x.1, A, l, c, rfl, Lib.hid ⟨A, l, c, rfl, hl, hc, hlim, hf⟩⟩
/-- A value is the record of a whole number. -/
def IntV (w : World) (v : Value) (z : Int) : Prop :=
  ∃ A l c, v = .agg #[.bool (decide (z < 0)), .slice A l c] ∧ l = (limbs z.natAbs).length ∧ l ≤ c ∧ Lim w w.heap.size A (limbs z.natAbs)
theorem RawAt.int {w : World} {base : Nat} {v : Value} {z : Int} (h : RawAt w base v (rawOf z)) : IntV w v z := by
  obtain ⟨A, l, c, rfl, hl, hc, hlim, _⟩ := h
  exact ⟨A, l, c, rfl, hl, hc, hlim⟩
theorem IntV.below {w w' : World} {v : Value} {z : Int} (h : IntV w v z) (hb : Below w.heap.size w w') : IntV w' v z := by
  obtain ⟨A, l, c, rfl, hl, hc, hlim⟩ := h
  exact ⟨A, l, c, rfl, hl, hc, (hlim.below hb).more hb.size⟩
theorem right_of {z : Int} (h : lc z.natAbs ≤ 4096) : rightInt (decide (z < 0), limbs z.natAbs) = true := by
  unfold lc at h
  unfold rightInt
  simp only
  rcases norm_limbs z.natAbs with h0 | h0
  · rw [h0]
    have h1 := limbs_eq_nil.1 h0
    rw [decide_eq_false (by omega)]
    rfl
  · by_cases h1 : (limbs z.natAbs).length = 0
    · have h2 := limbs_eq_nil.1 (List.eq_nil_of_length_eq_zero h1)
      rw [decide_eq_false (by omega), h1]
      rfl
    · rw [decide_eq_true h]
      have e1 : ((limbs z.natAbs).length == 0) = false := beq_eq_false_iff_ne.2 h1
      have e2 : ((limbs z.natAbs).getD ((limbs z.natAbs).length - 1) 0 != 0) = true := by simpa using h0
      rw [e2]
      simp [bne, e1]
/-- Two boxes. -/
theorem box_two (w : World) (x y x' y' : Value) : ∃ W0 g r, (w.alloc (.cells #[x, y] 24)).alloc (.cells #[x', y'] 24) = W0 ∧ w.heap.size = g ∧ w.heap.size + 1 = r ∧ g + 1 = r ∧ Box2 W0 g x y ∧ Box2 W0 r x' y' ∧ Below g w W0 ∧ W0.heap.size = g + 2 := by
  refine ⟨_, _, _, rfl, rfl, rfl, rfl, ?_, ?_, ((Below.refl _ _).alloc (Nat.le_refl _) _).alloc (by simp) _, by simp⟩
  · unfold Box2
    rw [Below.heap_alloc _ _ _ (by simp)]; exact heap_alloc_new w _
  · have h := heap_alloc_new (w.alloc (.cells #[x, y] 24)) (.cells #[x', y'] 24)
    unfold Box2
    simpa using h
/-- The answer where a thing is refused. -/
def none2 : Value := .agg #[.bool false, .slice none 0 0]
theorem Box2.far {w : World} {g h : Nat} {x y a b : Value} (hb : Box2 w g x y) (hg : h ≠ g) : Box2 ((w.setCell ⟨h, 0, none⟩ a).setCell ⟨h, 1, none⟩ b) g x y := by
  unfold Box2 at hb ⊢
  rw [Below.heap_setCell _ _ _ g (by simpa using hg.symm), Below.heap_setCell _ _ _ g (by simpa using hg.symm)]
  exact hb
theorem box_three (w : World) (x y x' y' x2 y2 : Value) : ∃ W0 g h r, ((w.alloc (.cells #[x, y] 24)).alloc (.cells #[x', y'] 24)).alloc (.cells #[x2, y2] 24) = W0 ∧ w.heap.size = g ∧ w.heap.size + 1 = h ∧ w.heap.size + 1 + 1 = r ∧ (g + 1 = h ∧ g + 2 = r) ∧ Box2 W0 g x y ∧ Box2 W0 h x' y' ∧ Box2 W0 r x2 y2 ∧ Below g w W0 ∧ W0.heap.size = g + 3 := by
  obtain ⟨W1, g, h, hW, hg, hh, hgh, b1, b2, hb, hs⟩ := box_two w x y x' y'
  obtain ⟨W2, r, hW2, hr, b3, hb2, hs2⟩ := box_new W1 x2 y2
  rw [hW, hW2]
  have hb2' : Below g W1 W2 := hb2.mono (by omega)
  have hb2'' : Below W1.heap.size W1 W2 := by rw [hr]; exact hb2
  exact ⟨_, _, _, _, rfl, hg, hh, by omega, ⟨hgh, rfl⟩, b1.below hb2'' b1.lt, b2.below hb2'' b2.lt, by
    have e : r = g + 2 := by omega
    subst e; exact b3, hb.trans hb2', by omega⟩
theorem Fresh.set {w : World} {base : Nat} {A : Option Addr} {c : Nat} (h : Fresh w base A c) (g k : Nat) (u : Value) : Fresh (w.setCell ⟨g, k, none⟩ u) base A c := by
  rcases h with h | ⟨g', cs, h1, h2, h3, h4⟩
  · exact .inl h
  · by_cases hg : g = g'
    · subst hg
      exact .inr ⟨g, cs.setIfInBounds k u, h1, h2, by simp [World.setCell, Array.getElem?_modify, h3], by simpa using h4⟩
    · exact .inr ⟨g', cs, h1, h2, by rw [Below.heap_setCell _ _ _ g' (by simpa using fun e => hg e.symm)]; exact h3, h4⟩
theorem Fresh.made (w : World) (n : Nat) : Fresh (w.alloc (.cells (madeCells #[.int .u64 0] n) 41)) w.heap.size (some ⟨w.heap.size, 0, none⟩) n :=
  .inr ⟨_, _, rfl, Nat.le_refl _, heap_alloc_new w _, by simp [size_madeCells]⟩
theorem IntV.open {w : World} {v : Value} {z : Int} (h : IntV w v z) : ∃ b A l c, v = .agg #[.bool b, .slice A l c] ∧ Hid (IntV w (.agg #[.bool b, .slice A l c]) z) := by
  obtain ⟨A, l, c, rfl, hl, hc, hlim⟩ := h
  exact ⟨_, A, l, c, rfl, Lib.hid ⟨A, l, c, rfl, hl, hc, hlim⟩⟩
set_option maxRecDepth 100000 in
/-- A copy is the call's own. -/
theorem clone_own (A : Option Addr) (c : Nat) (xs : List Nat) (w : World) {B : Nat} (hB : B ≤ w.heap.size) (h1 : Lim w B A xs) (hc : xs.length ≤ c) (hl : xs.length ≤ 1099511627776) :
    Calls Tryz.prog 147 #[.slice A xs.length c] w fun e w' => ∃ A' c', e = .returned (.slice A' xs.length c') ∧ xs.length ≤ c' ∧ Lim w' w'.heap.size A' xs ∧ Fresh w' w.heap.size A' c' ∧ Below w.heap.size w w' := by
  have HL := Lib.hid hl
  have HC := Lib.hid hc
  clear hl hc
  cases A with
  | none =>
    have hx : xs = [] := by
      rcases xs with _ | ⟨x, xs⟩
      · rfl
      · obtain ⟨ad, e, _⟩ := h1.cells (by simp)
        cases e
    subst hx
    have hnil : ∀ W, (binOp .eql 22 (.slice none 0 c) (.slice none 0 0)).run Tryz.prog W = .ok (.bool true) W := fun W => Lib.run_eql_slice_nil W _ 41 none 0 c 0 0 (by kernel_rfl)
    go_enter Tryz.func147, Tryz.ntmps147
    go_wp2_with fail
    go_ret
    exact ⟨none, 0, rfl, by simp, Lim.nil _ _ _, .inl ⟨rfl, rfl⟩, Below.refl _ _⟩
  | some ad =>
    have hnil : ∀ W, (binOp .eql 22 (.slice (some ad) xs.length c) (.slice none 0 0)).run Tryz.prog W = .ok (.bool false) W := fun W => Lib.run_eql_slice_nil W _ 41 (some ad) xs.length c 0 0 (by kernel_rfl)
    go_enter Tryz.func147, Tryz.ntmps147
    have HO : Own (w.alloc (.cells #[] 41)) w.heap.size (.slice (some ⟨w.heap.size, 0, none⟩) 0 0) [] := by
      have h := Own.made w w.heap.size 0 0 (Nat.le_refl _) (Nat.le_refl _) (by omega)
      rwa [show madeCells #[.int .u64 0] 0 = #[] by simp [madeCells]] at h
    have HB : Below w.heap.size w (w.alloc (.cells #[] 41)) := (Below.refl _ _).alloc (Nat.le_refl _) _
    go_wp2_with (at_builtin; refine append_lim (w0 := w) w.heap.size rfl _ _ rfl _ [] (some ad) xs.length c xs (by rfl) (by rfl) rfl (h1.alloc hB _) HO HB HB.size (by have := HL.out; simp; omega) fun v1 w1 hown hbel hgrow _ => ?_)
    obtain ⟨A, c', hv, hc', hlim, _⟩ := hown.form
    rw [hv]
    rw [hv] at hown
    go_wp2_with fail
    go_ret
    exact ⟨A, c', by rfl, by simpa using hc', by simpa using hlim, hown.fresh, hbel⟩
theorem Box2.ext {G : Nat → Prop} {w w' : World} {g : Nat} {x y : Value} (h : Box2 w g x y) (e : Ext G w w') (hg : ¬ G g) : Box2 w' g x y := by
  have hl := h.lt
  unfold Box2 at h ⊢
  rw [e.block g hl hg]; exact h
theorem Box2.drewN {w : World} {g : Nat} {x y : Value} (h : Box2 w g x y) (n : Nat) : Box2 (w.drewN n) g x y := h
theorem RawAt.store2 {w : World} {base h : Nat} {v : Value} {x : Raw} (hr : RawAt w base v x) (hn : NoNum w h) (a b : Value) : RawAt ((w.setCell ⟨h, 0, none⟩ a).setCell ⟨h, 1, none⟩ b) base v x := by
  obtain ⟨A, l, c, rfl, hl, hc, hlim, hf⟩ := hr
  have e := ext_store2 (a := a) (b := b) hn
  exact ⟨A, l, c, rfl, hl, hc, (hlim.ext (Nat.le_refl _) e).more e.size, Fresh.set (Fresh.set hf h 0 a) h 1 b⟩
set_option maxRecDepth 100000 in
theorem ref_rightInt (b : Bool) (A : Option Addr) (l c : Nat) (xs : List Nat) (w : World) {B : Nat} (hB : B ≤ w.heap.size) (h1 : Lim w B A xs) (hl : l = xs.length) :
    Calls Tryz.prog 53 #[.agg #[.bool b, .slice A l c]] w fun e w' => e = .returned (.bool (rightInt (b, xs))) ∧ Below w.heap.size w w' := by
  subst hl
  have hwo : Below w.heap.size w (w.alloc (.cells #[.bool b, .slice A xs.length c] 24)) := (Below.refl _ w).alloc (Nat.le_refl _) _
  by_cases h0 : xs.length = 0
  · obtain rfl := List.eq_nil_of_length_eq_zero h0
    have HE := Lib.hid (show rightInt (b, []) = !b by simp [rightInt])
    rw [HE.out]
    cases b
    all_goals
      go_enter Tryz.func53, Tryz.ntmps53
      go_wp2_with fail
      go_ret
      exact ⟨rfl, hwo⟩
  · have t0 : ((xs.length : Int) == 0) = false := beq_eq_false_iff_ne.2 (by omega)
    have hp : xs.length - 1 < xs.length := by omega
    by_cases h4 : xs.length ≤ 4096
    · have tI : (xs.length : Int) ≤ 4096 := by omega
      obtain ⟨ad, rfl, hb, hcell⟩ := (h1.below (hwo.mono hB)).at_ hp
      obtain ⟨x, hx⟩ : ∃ x, xs.getD (xs.length - 1) 0 = x := ⟨_, rfl⟩
      rw [hx] at hcell
      have HE := Lib.hid (show rightInt (b, xs) = (x != 0) by
        have e0 : (xs.length == 0) = false := beq_eq_false_iff_ne.2 h0
        unfold rightInt
        simp only [e0, bne, hx, decide_eq_true h4, Bool.false_and, Bool.false_or, Bool.not_false, Bool.true_and])
      rw [HE.out]
      obtain ⟨m, hm⟩ : ∃ m, xs.length - 1 = m := ⟨_, rfl⟩
      have e1 : ((xs.length : Int) - 1) = (m : Int) := by omega
      have hml : (m : Int) < (xs.length : Int) := by omega
      rw [hm] at hcell
      clear h0 hp h4 hx hm
      go_enter Tryz.func53, Tryz.ntmps53
      go_wp2_with fail
      go_ret
      exact ⟨by rw [← int_bne]; rfl, hwo⟩
    · have tI : (4096 : Int) < (xs.length : Int) := by omega
      have HE := Lib.hid (show rightInt (b, xs) = false by simp [rightInt, h4]; intro h; exact absurd (by rw [h]; rfl) h0)
      rw [HE.out]
      clear h0 hp h4
      go_enter Tryz.func53, Tryz.ntmps53
      go_wp2_with fail
      go_ret
      exact ⟨rfl, hwo⟩
end Go.Proofs.YtjbagikfogejnaaGreatDoor
/- The package rosettekit: SameLimbs, SameInt, SameWholes. -/
namespace Go.Proofs.YtjbagikfogejnaaGreatDoor
open Go.RowKit Go.Deep
theorem take_same_succ {xs ys : List Nat} {k : Nat} (h1 : k < xs.length) (h2 : k < ys.length) (h : xs.take k = ys.take k) (e : xs.getD k 0 = ys.getD k 0) : xs.take (k + 1) = ys.take (k + 1) := by
  rw [List.take_succ_eq_append_getElem h1, List.take_succ_eq_append_getElem h2, h]
  congr 2
  simpa [h1, h2] using e
set_option maxRecDepth 100000 in
theorem kit_limbs (A1 A2 : Option Addr) (l1 l2 c1 c2 : Nat) (xs ys : List Nat) (w : World) {B1 B2 : Nat} (h1 : Lim w B1 A1 xs) (h2 : Lim w B2 A2 ys) (e1 : l1 = xs.length) (e2 : l2 = ys.length) (hl : (l1 : Int) ≤ 1099511627776) :
    Calls Tryz.prog 85 #[.slice A1 l1 c1, .slice A2 l2 c2] w fun e w' => e = .returned (.bool (decide (xs = ys))) ∧ ∃ q, w' = w.drewN q := by
  by_cases hll : l1 = l2
  · subst hll
    have E1 := Lib.hid e1
    have E2 := Lib.hid e2
    clear e1 e2
    go_enter Tryz.func85, Tryz.ntmps85
    go_wp2_with fail
    go_loopw [5] (fun t5 wr => ∃ k : Nat, k ≤ l1 ∧ t5 = .int .i64 (k : Int) ∧ xs.take k = ys.take k ∧ ∃ q, wr = w.drewN q) (fun t5 _ => l1 - (intOf t5).toNat)
    case atStart => exact ⟨0, by omega, rfl, rfl, 0, rfl⟩
    case round =>
      obtain ⟨k, hk, rfl, htk, q, rfl⟩ := hrel
      have HT := Lib.hid htk
      clear htk
      by_cases hlt : k < l1
      · have K1 := Lib.hid (show k < xs.length by rw [← E1.out]; exact hlt)
        have K2 := Lib.hid (show k < ys.length by rw [← E2.out]; exact hlt)
        obtain ⟨a1, rfl, _, hc1⟩ := h1.at_ K1.out
        obtain ⟨a2, rfl, _, hc2⟩ := h2.at_ K2.out
        obtain ⟨x, hx⟩ : ∃ x, xs.getD k 0 = x := ⟨_, rfl⟩
        obtain ⟨y, hy⟩ : ∃ y, ys.getD k 0 = y := ⟨_, rfl⟩
        rw [hx] at hc1
        rw [hy] at hc2
        have HX := Lib.hid hx
        have HY := Lib.hid hy
        have hkI : (k : Int) < (l1 : Int) := by omega
        clear hx hy
        by_cases hxy : x = y
        · have t1 : ((x : Int) != (y : Int)) = false := by rw [bne_eq_false_iff_eq]; omega
          have HS := Lib.hid (take_same_succ K1.out K2.out HT.out (by rw [HX.out, HY.out, hxy]))
          clear hxy
          go_wp2_with fail
          go_quiet (fail)
          go_wp2_with fail
          exact ⟨⟨k + 1, by omega, by go_num, HS.out, _, rfl⟩, by simp [intOf]; omega⟩
        · have t1 : ((x : Int) != (y : Int)) = true := by rw [bne_iff_ne]; omega
          have HE := Lib.hid (show decide (xs = ys) = false from decide_eq_false (fun e => hxy (by rw [← HX.out, ← HY.out, e])))
          clear hxy
          go_wp2_with fail
          go_quiet (fail)
          go_wp2_with fail
          go_ret
          exact ⟨by rw [HE.out]; rfl, by rw [World.drewN_drewN]; exact ⟨_, rfl⟩⟩
      · obtain rfl : k = l1 := by omega
        have HE := Lib.hid (show decide (xs = ys) = true from decide_eq_true (by
          have h := HT.out
          rwa [List.take_of_length_le (by rw [← E1.out]; exact Nat.le_refl _), List.take_of_length_le (by rw [← E2.out]; exact Nat.le_refl _)] at h))
        go_wp2_with fail
        go_ret
        exact ⟨by rw [HE.out]; rfl, q, rfl⟩
  · have t1 : ((l1 : Int) != (l2 : Int)) = true := by rw [bne_iff_ne]; omega
    have HE := Lib.hid (show decide (xs = ys) = false from decide_eq_false (fun e => hll (by rw [e1, e2, e])))
    clear hll e1 e2
    go_enter Tryz.func85, Tryz.ntmps85
    go_wp2_with fail
    go_ret
    exact ⟨by rw [HE.out]; rfl, 0, rfl⟩
set_option maxRecDepth 100000 in
theorem kit_int (b1 b2 : Bool) (A1 A2 : Option Addr) (l1 l2 c1 c2 : Nat) (xs ys : List Nat) (w : World) {B1 B2 : Nat} (hB1 : B1 ≤ w.heap.size) (hB2 : B2 ≤ w.heap.size) (h1 : Lim w B1 A1 xs) (h2 : Lim w B2 A2 ys) (e1 : l1 = xs.length) (e2 : l2 = ys.length) (hl : (l1 : Int) ≤ 1099511627776) :
    Calls Tryz.prog 34 #[.agg #[.bool b1, .slice A1 l1 c1], .agg #[.bool b2, .slice A2 l2 c2]] w fun e w' => e = .returned (.bool (decide (((b1, xs) : Raw) = (b2, ys)))) ∧ Below w.heap.size w w' := by
  have E1 := Lib.hid e1
  have E2 := Lib.hid e2
  have HL := Lib.hid hl
  clear e1 e2 hl
  by_cases hb : b1 = b2
  · subst hb
    have HE := Lib.hid (show decide (((b1, xs) : Raw) = (b1, ys)) = decide (xs = ys) by simp)
    have tb : (b1 == b1) = true := by cases b1 <;> rfl
    go_enter Tryz.func34, Tryz.ntmps34
    go_wp2_with fail
    have hbw : Below w.heap.size w ((w.alloc (.cells #[.bool b1, .slice A1 l1 c1] 24)).alloc (.cells #[.bool b1, .slice A2 l2 c2] 24)) := ((Below.refl _ w).alloc (Nat.le_refl _) _).alloc (by simp) _
    refine (kit_limbs A1 A2 l1 l2 c1 c2 xs ys _ (h1.below (hbw.mono hB1)) (h2.below (hbw.mono hB2)) E1.out E2.out HL.out).mono ?_
    rintro e w2 ⟨rfl, q, rfl⟩
    go_wp2_with fail
    go_ret
    exact ⟨by rw [HE.out]; rfl, below_drewN hbw q⟩
  · have HE := Lib.hid (show decide (((b1, xs) : Raw) = (b2, ys)) = false by simp [hb])
    have tb : (b1 == b2) = false := beq_eq_false_iff_ne.2 hb
    clear hb
    go_enter Tryz.func34, Tryz.ntmps34
    go_wp2_with fail
    go_ret
    exact ⟨by rw [HE.out]; rfl, ((Below.refl _ w).alloc (Nat.le_refl _) _).alloc (by simp) _⟩
end Go.Proofs.YtjbagikfogejnaaGreatDoor
/- Records of a sign and limbs, as values. -/
namespace Go.Proofs.YtjbagikfogejnaaGreatDoor
open Go.RowKit Go.Deep
theorem IntV.parts {w : World} {s : Bool} {A : Option Addr} {l c : Nat} {z : Int} (h : IntV w (.agg #[.bool s, .slice A l c]) z) : s = decide (z < 0) ∧ l = (limbs z.natAbs).length ∧ l ≤ c ∧ Lim w w.heap.size A (limbs z.natAbs) := by
  obtain ⟨A', l', c', hv, hl, hc, hlim⟩ := h
  injection hv with hv
  have h0 := congrArg (fun a => a[0]?) hv
  have h1 := congrArg (fun a => a[1]?) hv
  simp at h0 h1
  obtain ⟨rfl, rfl, rfl⟩ := h1
  exact ⟨h0, hl, hc, hlim⟩
theorem one_len : (limbs (1 : Int).natAbs).length ≤ 1 := by
  show lc 1 ≤ 1
  rw [lc_le, Nat.pow_one, W64_eq]; omega
theorem cmpZ_eq (x : Int) : cmpZ x x = 0 := by unfold cmpZ; simp
theorem cmpZ_gt {x y : Int} (h : y < x) : cmpZ x y = 1 := by unfold cmpZ; rw [if_neg (by omega), if_pos h]
theorem cmpZ_lt {x y : Int} (h : x < y) : cmpZ x y = -1 := by unfold cmpZ; rw [if_pos h]
theorem results_rec2 {fn : Func} {p q u : Tmp} {ty : TypeId} (h : fn.results = #[.cell p ty, .cell q ty, .tmp u]) (tmps : Array Value) (P : Program) (w : World) :
    (results fn tmps).run P w =
      ((asAddr (tmps.getD p undef)).run P w).andThen fun a w₁ => ((loadVar ty a).run P w₁).andThen fun v w₂ => ((asAddr (tmps.getD q undef)).run P w₂).andThen fun b w₃ => ((loadVar ty b).run P w₃).andThen fun x w₄ => .ok (.tuple #[v, x, tmps.getD u undef]) w₄ := by
  simp only [results, h]
  simp [Sem.run_bind, Result.andThen]
theorem results_rec_two {fn : Func} {p q u : Tmp} {ty : TypeId} (h : fn.results = #[.cell p ty, .tmp q, .tmp u]) (tmps : Array Value) (P : Program) (w : World) :
    (results fn tmps).run P w =
      ((asAddr (tmps.getD p undef)).run P w).andThen fun a w₁ => ((loadVar ty a).run P w₁).andThen fun v w₂ => .ok (.tuple #[v, tmps.getD q undef, tmps.getD u undef]) w₂ := by
  simp only [results, h]
  simp [Sem.run_bind, Result.andThen]
/-- A value is a record of a sign and limbs. -/
def RawV (w : World) (v : Value) (x : Raw) : Prop := ∃ A l c, v = .agg #[.bool x.1, .slice A l c] ∧ l = x.2.length ∧ l ≤ c ∧ Lim w w.heap.size A x.2
theorem RawAt.rawV {w : World} {base : Nat} {v : Value} {x : Raw} (h : RawAt w base v x) : RawV w v x := by
  obtain ⟨A, l, c, rfl, hl, hc, hlim, _⟩ := h
  exact ⟨A, l, c, rfl, hl, hc, hlim⟩
theorem RawV.below {w w' : World} {v : Value} {x : Raw} (h : RawV w v x) (hb : Below w.heap.size w w') : RawV w' v x := by
  obtain ⟨A, l, c, rfl, hl, hc, hlim⟩ := h
  exact ⟨A, l, c, rfl, hl, hc, (hlim.below hb).more hb.size⟩
theorem RawV.drewN {w : World} {v : Value} {x : Raw} (h : RawV w v x) (n : Nat) : RawV (w.drewN n) v x := by
  obtain ⟨A, l, c, rfl, hl, hc, hlim⟩ := h
  exact ⟨A, l, c, rfl, hl, hc, hlim.drewN n⟩
theorem RawV.none (w : World) : RawV w none2 (false, []) := ⟨Option.none, 0, 0, rfl, rfl, Nat.le_refl _, Lim.nil _ _ _⟩
theorem RawV.int {w : World} {v : Value} {z : Int} (h : RawV w v (rawOf z)) : IntV w v z := h
theorem IntV.raw {w : World} {v : Value} {z : Int} (h : IntV w v z) : RawV w v (rawOf z) := h
theorem RawV.open {w : World} {v : Value} {x : Raw} (h : RawV w v x) : ∃ b A l c, v = .agg #[.bool b, .slice A l c] ∧ Hid (RawV w (.agg #[.bool b, .slice A l c]) x) := by
  obtain ⟨A, l, c, rfl, hl, hc, hlim⟩ := h
  exact ⟨x.1, A, l, c, rfl, Lib.hid ⟨A, l, c, rfl, hl, hc, hlim⟩⟩
theorem RawV.parts {w : World} {b : Bool} {A : Option Addr} {l c : Nat} {x : Raw} (h : RawV w (.agg #[.bool b, .slice A l c]) x) : b = x.1 ∧ l = x.2.length ∧ l ≤ c ∧ Lim w w.heap.size A x.2 := by
  obtain ⟨A', l', c', hv, hl, hc, hlim⟩ := h
  injection hv with hv
  have h0 := congrArg (fun a => a[0]?) hv
  have h1 := congrArg (fun a => a[1]?) hv
  simp at h0 h1
  obtain ⟨rfl, rfl, rfl⟩ := h1
  exact ⟨h0, hl, hc, hlim⟩
/-- A record that is right is that of a whole number. -/
theorem right_int_of {b : Bool} {xs : List Nat} (hs : Small xs) (h : rightInt (b, xs) = true) : ∃ z : Int, ((b, xs) : Raw) = rawOf z ∧ lc z.natAbs = xs.length ∧ xs.length ≤ 4096 := by
  have hn : Norm xs ∧ xs.length ≤ 4096 ∧ (xs = [] → b = false) := by
    unfold rightInt at h
    simp only at h
    rcases hx : xs with _ | ⟨y, ys⟩
    · subst hx
      refine ⟨.inl rfl, by simp, fun _ => ?_⟩
      simpa using h
    · have e1 : (xs.length == 0) = false := by rw [hx]; rfl
      rw [e1] at h
      simp only [Bool.false_and, Bool.false_or, Bool.and_eq_true, bne, decide_eq_true_eq, Bool.not_eq_true'] at h
      rw [← hx]
      refine ⟨.inr ?_, h.1.2, fun h2 => by rw [hx] at h2; exact absurd h2 (by simp)⟩
      have h2 := h.2
      intro h3
      rw [h3] at h2
      exact absurd h2 (by decide)
  have he := eq_limbs hs hn.1
  refine ⟨signed b (val xs), ?_, ?_, hn.2.1⟩
  · unfold rawOf
    rw [signed_natAbs, ← he, signed_neg]
    by_cases h0 : xs = []
    · rw [hn.2.2 h0]; simp
    · have h1 : val xs ≠ 0 := fun h2 => h0 (by rw [he, h2, limbs_zero])
      simp [h1]
  · rw [signed_natAbs]
    unfold lc
    rw [← he]
theorem Lim.lit (W : World) (x : Nat) (hx : x < W64) : Lim (W.alloc (.cells #[.int .u64 (x : Int)] 41)) (W.heap.size + 1) (some ⟨W.heap.size, 0, none⟩) [x] := by
  have ho : Own (W.alloc (.cells #[.int .u64 (x : Int)] 41)) W.heap.size (.slice (some ⟨W.heap.size, 0, none⟩) 1 1) [x] :=
    ⟨Small.one hx, rfl, .inr ⟨W.heap.size, 1, _, rfl, Nat.le_refl _, heap_alloc_new W _, Nat.le_refl _, by simp only [maxLen]; omega, rfl, rfl⟩⟩
  obtain ⟨A, c, e, hc, hlim, _⟩ := ho.form
  injection e with e1 e2 e3
  subst e1
  have h : (W.alloc (.cells #[.int .u64 (x : Int)] 41)).heap.size = W.heap.size + 1 := by simp
  rwa [h] at hlim
theorem raw_small {x : Int} (h0 : x ≠ 0) (h : x.natAbs < W64) : rawOf x = (decide (x < 0), [x.natAbs]) := by
  unfold rawOf; rw [limbs_of_small h (by omega)]
theorem IntV.abs {w : World} {s : Bool} {A : Option Addr} {l c : Nat} {z : Int} (h : IntV w (.agg #[.bool s, .slice A l c]) z) : IntV w (.agg #[.bool false, .slice A l c]) (z.natAbs : Int) := by
  obtain ⟨h1, h2, h3, h4⟩ := h.parts
  exact ⟨A, l, c, by rw [decide_eq_false (by omega)], by rw [Int.natAbs_natCast]; exact h2, h3, by rw [Int.natAbs_natCast]; exact h4⟩
theorem raw_one : rawOf 1 = (false, [1]) := raw_small (by decide) (by rw [W64_eq]; decide)
theorem kit_raw (u v : Value) (x y : Raw) (w : World) (hu : RawV w u x) (hv : RawV w v y) (hl : x.2.length ≤ 1099511627776) :
    Calls Tryz.prog 34 #[u, v] w fun e w' => e = .returned (.bool (decide (x = y))) ∧ Below w.heap.size w w' := by
  obtain ⟨A1, l1, c1, rfl, e1, _, h1⟩ := hu
  obtain ⟨A2, l2, c2, rfl, e2, _, h2⟩ := hv
  exact kit_int x.1 y.1 A1 A2 l1 l2 c1 c2 x.2 y.2 w (Nat.le_refl _) (Nat.le_refl _) h1 h2 e1 e2 (by omega)
end Go.Proofs.YtjbagikfogejnaaGreatDoor
/- Rows of records (sign, limbs) that the call makes. -/
namespace Go.Proofs.YtjbagikfogejnaaGreatDoor
open Go.RowKit Go.Deep
/-- Records as cells. -/
def recs (l : List (Bool × Value)) : List Value := l.flatMap fun p => [.bool p.1, p.2]
theorem recs_length (l : List (Bool × Value)) : (recs l).length = l.length * 2 := by
  induction l with
  | nil => rfl
  | cons p l ih => unfold recs at ih ⊢; simp [List.flatMap_cons, ih]; omega
theorem recs_append (l m : List (Bool × Value)) : recs (l ++ m) = recs l ++ recs m := by simp [recs]
theorem recs_get (l : List (Bool × Value)) {j : Nat} (hj : j < l.length) {p : Bool × Value} (hp : l.getD j p = p) : (recs l)[2 * j]? = some (.bool p.1) ∧ (recs l)[2 * j + 1]? = some p.2 := by
  induction l generalizing j with
  | nil => simp at hj
  | cons q l ih =>
    have e : recs (q :: l) = .bool q.1 :: q.2 :: recs l := by simp [recs]
    rw [e]
    cases j with
    | zero => simp at hp; subst hp; simp
    | succ j =>
      rw [show 2 * (j + 1) = 2 * j + 2 by omega]
      simp only [List.getElem?_cons_succ]
      exact ih (by simpa using hj) (by simpa using hp)
theorem recs_set0 (l : List (Bool × Value)) {j : Nat} (hj : j < l.length) (b : Bool) {p : Bool × Value} (hp : l.getD j p = p) : (recs l).set (2 * j) (.bool b) = recs (l.set j (b, p.2)) := by
  induction l generalizing j with
  | nil => simp at hj
  | cons q l ih =>
    have e : ∀ q l, recs (q :: l) = .bool q.1 :: q.2 :: recs l := fun q l => by simp [recs]
    rw [e]
    cases j with
    | zero => simp at hp; subst hp; simp [e]
    | succ j =>
      rw [show 2 * (j + 1) = 2 * j + 1 + 1 by omega]
      simp only [List.set_cons_succ, e]
      rw [ih (by simpa using hj) (by simpa using hp)]
theorem recs_set1 (l : List (Bool × Value)) {j : Nat} (hj : j < l.length) (v : Value) {p : Bool × Value} (hp : l.getD j p = p) : (recs l).set (2 * j + 1) v = recs (l.set j (p.1, v)) := by
  induction l generalizing j with
  | nil => simp at hj
  | cons q l ih =>
    have e : ∀ q l, recs (q :: l) = .bool q.1 :: q.2 :: recs l := fun q l => by simp [recs]
    rw [e]
    cases j with
    | zero => simp at hp; subst hp; simp [e]
    | succ j =>
      rw [show 2 * (j + 1) + 1 = 2 * j + 1 + 1 + 1 by omega]
      simp only [List.set_cons_succ, e]
      rw [ih (by simpa using hj) (by simpa using hp)]
theorem getD_self {α : Type} (l : List α) (j : Nat) (d : α) : l.getD j (l.getD j d) = l.getD j d := by
  simp only [List.getD_eq_getElem?_getD]
  cases l[j]? <;> rfl
/-- A record that is 0. -/
def rec0 : Bool × Value := (false, .slice none 0 0)
/-- The value v is nil or the call's own row of the records l, of which the first hold xs; all between the blocks base and top. -/
structure Recs (w : World) (base top : Nat) (v : Value) (l : List (Bool × Value)) (xs : List Raw) : Prop where
  own : w.ownsRow base 24 2 v l.length (recs l)
  len : xs.length ≤ l.length
  low : base ≤ top
  lt : ∀ g, v.ownBlock = some g → g < top
  mag : ∀ j, j < xs.length → (l.getD j rec0).1 = (xs.getD j (false, [])).1 ∧ Own w base (l.getD j rec0).2 (xs.getD j (false, [])).2 ∧ ∀ g, (l.getD j rec0).2.ownBlock = some g → g < top
  apart : ∀ i j, i < j → j < xs.length → ∀ g h, (l.getD i rec0).2.ownBlock = some g → (l.getD j rec0).2.ownBlock = some h → g < h
section
variable {w w' : World} {base top : Nat} {v : Value} {l : List (Bool × Value)} {xs : List Raw}
theorem Own.type {g : Nat} {ys : List Nat} {u : Value} (h : Own w base u ys) (hg : u.ownBlock = some g) : ∃ cs, w.heap[g]? = some (.cells cs 41 (0, 0)) := by
  rcases h.own.2 with ⟨rfl, _⟩ | ⟨g', cap, cur, rfl, _, hh, _⟩
  · simp [Value.ownBlock] at hg
  · simp [Value.ownBlock] at hg; subst hg; exact ⟨cur, hh⟩
theorem Own.lt {g : Nat} {ys : List Nat} {u : Value} (h : Own w base u ys) (hg : u.ownBlock = some g) : g < w.heap.size := (h.own.lt g hg).2
theorem Own.mono {base' : Nat} {ys : List Nat} {u : Value} (h : Own w base u ys) (hb : base' ≤ base) : Own w base' u ys := by
  refine ⟨h.small, h.own.1, ?_⟩
  rcases h.own.2 with hn | ⟨g, cap, cur, e, hg, rest⟩
  · exact .inl hn
  · exact .inr ⟨g, cap, cur, e, Nat.le_trans hb hg, rest⟩
theorem Own.grown {row : Option Nat} {ys : List Nat} {u : Value} (h : Own w base u ys) (hg : w.grownBy w' row) (hne : u.ownBlock = none ∨ u.ownBlock ≠ row) : Own w' base u ys := ⟨h.small, h.own.kept hg hne⟩
theorem Own.slice {ys : List Nat} {u : Value} (h : Own w base u ys) : ∃ A k c, u = .slice A k c := by
  obtain ⟨A, c, e, _⟩ := h.form
  exact ⟨A, _, c, e⟩
theorem own_cases (u : Value) : u.ownBlock = none ∨ ∃ g, u.ownBlock = some g := by cases u.ownBlock <;> simp
/-- A cell of another block was written. -/
theorem Own.far {ys : List Nat} {u : Value} (h : Own w base u ys) (p : Addr) (x : Value) (hne : ∀ g, u.ownBlock = some g → g ≠ p.block) : Own (w.setCell p x) base u ys :=
  h.grown (row := some p.block) ⟨rfl, rfl, rfl, by simp, fun k _ hk => Below.heap_setCell _ _ _ k (fun e => hk (by rw [e]))⟩ (by
    rcases own_cases u with h | ⟨g, h⟩
    · exact .inl h
    · right; rw [h]; intro e; injection e with e; exact hne g h e)
theorem Recs.below (h : Recs w base top v l xs) (hb : Below top w w') : Recs w' base top v l xs := by
  have key : ∀ (e : TypeId) (size n : Nat) (u : Value) (ys : List Value), w.ownsRow base e size u n ys → (∀ g, u.ownBlock = some g → g < top) → w'.ownsRow base e size u n ys := by
    intro e size n u ys ho hlt
    refine ⟨ho.1, ?_⟩
    rcases ho.2 with hn | ⟨g, cap, cur, rfl, hb', hgg, rest⟩
    · exact .inl hn
    · refine .inr ⟨g, cap, cur, rfl, hb', ?_, rest⟩
      rw [hb.block g (hlt g rfl)]
      exact hgg
  exact ⟨key _ _ _ _ _ h.own h.lt, h.len, h.low, h.lt, fun j hj => ⟨(h.mag j hj).1, ⟨(h.mag j hj).2.1.small, key _ _ _ _ _ (h.mag j hj).2.1.own (h.mag j hj).2.2⟩, (h.mag j hj).2.2⟩, h.apart⟩
theorem Recs.rise {top' : Nat} (h : Recs w base top v l xs) (ht : top ≤ top') : Recs w base top' v l xs :=
  ⟨h.own, h.len, Nat.le_trans h.low ht, fun g hg => Nat.lt_of_lt_of_le (h.lt g hg) ht, fun j hj => ⟨(h.mag j hj).1, (h.mag j hj).2.1, fun g hg => Nat.lt_of_lt_of_le ((h.mag j hj).2.2 g hg) ht⟩, h.apart⟩
/-- The records' row is none of the limbs' rows. -/
theorem Recs.off {R n c : Nat} (h : Recs w base top (.slice (some ⟨R, 0, none⟩) n c) l xs) {j : Nat} (hj : j < xs.length) {g : Nat} (hg : (l.getD j rec0).2.ownBlock = some g) : g ≠ R := by
  intro e
  subst e
  obtain ⟨cs, hc⟩ := (h.mag j hj).2.1.type hg
  rcases h.own.2 with ⟨h', _⟩ | ⟨g', cap, cur, h', _, hh, _⟩
  · simp at h'
  · simp only [Value.slice.injEq, Option.some.injEq, Addr.mk.injEq, and_true] at h'
    obtain ⟨rfl, _⟩ := h'
    rw [hc] at hh
    simp at hh
theorem getD_set_ne {α : Type} (l : List α) {i j : Nat} (h : j ≠ i) (a d : α) : (l.set i a).getD j d = l.getD j d := by
  simp only [List.getD_eq_getElem?_getD, List.getElem?_set_ne (Ne.symm h)]
/-- A record behind the told ones is written. -/
theorem Recs.put {R n c i : Nat} (h : Recs w base top (.slice (some ⟨R, 0, none⟩) n c) l xs) (hn : n = l.length) (hi : xs.length ≤ i) (q : Bool × Value) (j : Nat) (u : Value) (e : (recs l).set j u = recs (l.set i q)) :
    Recs (w.setCell ⟨R, j, none⟩ u) base top (.slice (some ⟨R, 0, none⟩) n c) (l.set i q) xs := by
  subst hn
  refine ⟨?_, by rw [List.length_set]; exact h.len, h.low, h.lt, fun k hk => ?_, fun a b hab hb => ?_⟩
  · have h1 := (h.own.stored j u).1
    rw [e] at h1
    rw [List.length_set]; exact h1
  · rw [getD_set_ne _ (by omega)]
    exact ⟨(h.mag k hk).1, (h.mag k hk).2.1.far _ _ (fun g hg => h.off hk hg), (h.mag k hk).2.2⟩
  · rw [getD_set_ne _ (by omega), getD_set_ne _ (by omega)]
    exact h.apart a b hab hb
theorem Recs.sign {R n c i : Nat} (h : Recs w base top (.slice (some ⟨R, 0, none⟩) n c) l xs) (hn : n = l.length) (hi : xs.length ≤ i) (hil : i < l.length) (b : Bool) {p : Bool × Value} (hp : l.getD i rec0 = p) :
    Recs (w.setCell ⟨R, i * 2, none⟩ (.bool b)) base top (.slice (some ⟨R, 0, none⟩) n c) (l.set i (b, p.2)) xs :=
  h.put hn hi _ _ _ (by rw [Nat.mul_comm]; exact recs_set0 l hil b (by rw [← hp]; exact getD_self l i rec0))
theorem Recs.limbs {R n c i : Nat} (h : Recs w base top (.slice (some ⟨R, 0, none⟩) n c) l xs) (hn : n = l.length) (hi : xs.length ≤ i) (hil : i < l.length) (u : Value) {p : Bool × Value} (hp : l.getD i rec0 = p) :
    Recs (w.setCell ⟨R, i * 2 + 1, none⟩ u) base top (.slice (some ⟨R, 0, none⟩) n c) (l.set i (p.1, u)) xs :=
  h.put hn hi _ _ _ (by rw [Nat.mul_comm]; exact recs_set1 l hil u (by rw [← hp]; exact getD_self l i rec0))
/-- One more is told. -/
theorem Recs.push {top' : Nat} {b : Bool} {u : Value} {ys : List Nat} (h : Recs w base top v l xs) (hp : l.getD xs.length rec0 = (b, u)) (hl : xs.length < l.length) (ho : Own w top u ys) (ht : top ≤ top') (hu : ∀ g, u.ownBlock = some g → g < top') :
    Recs w base top' v l (xs ++ [(b, ys)]) := by
  have h' := h.rise ht
  refine ⟨h.own, by simp; omega, h'.low, h'.lt, fun j hj => ?_, fun i j hij hj => ?_⟩
  · by_cases hjx : j < xs.length
    · rw [show (xs ++ [(b, ys)]).getD j (false, []) = xs.getD j (false, []) by simp [List.getElem?_append_left, hjx]]
      exact h'.mag j hjx
    · obtain rfl : j = xs.length := by simp at hj; omega
      rw [hp, show (xs ++ [(b, ys)]).getD xs.length (false, []) = (b, ys) by simp]
      exact ⟨rfl, ho.mono h.low, hu⟩
  · by_cases hjx : j < xs.length
    · exact h.apart i j hij hjx
    · obtain rfl : j = xs.length := by simp at hj; omega
      intro g g' hg hg'
      rw [hp] at hg'
      have h1 := (h.mag i hij).2.2 g hg
      have h2 := (ho.own.lt g' hg').1
      omega
theorem Recs.cell0 {R n c i : Nat} (h : Recs w base top (.slice (some ⟨R, 0, none⟩) n c) l xs) (hi : i < l.length) : w.cell? ⟨R, i * 2, none⟩ = some (.bool (l.getD i rec0).1) := by
  have c0 := h.own.cells (g := R) rfl (2 * i) _ (recs_get l hi (p := l.getD i rec0) (getD_self l i rec0)).1
  rwa [add_plain, Nat.mul_comm] at c0
theorem Recs.cell1 {R n c i : Nat} (h : Recs w base top (.slice (some ⟨R, 0, none⟩) n c) l xs) (hi : i < l.length) : w.cell? ⟨R, i * 2 + 1, none⟩ = some (l.getD i rec0).2 := by
  have c0 := h.own.cells (g := R) rfl (2 * i + 1) _ (recs_get l hi (p := l.getD i rec0) (getD_self l i rec0)).2
  rwa [add_plain, Nat.mul_comm] at c0
theorem Recs.free {R n c : Nat} (h : Recs w base top (.slice (some ⟨R, 0, none⟩) n c) l xs) (hn : n = l.length) (k : Nat) : w.frozen? ⟨R, k, none⟩ = false := by
  subst hn
  exact h.own.frozenAt k
theorem Recs.at_ {R n c : Nat} (h : Recs w base top (.slice (some ⟨R, 0, none⟩) n c) l xs) : R < top ∧ R < w.heap.size ∧ base ≤ R := ⟨h.lt R rfl, (h.own.lt R rfl).2, (h.own.lt R rfl).1⟩
theorem Recs.noNum {R n : Nat} (h : Recs w base top (.slice (some ⟨R, 0, none⟩) n n) l xs) (hn : n = l.length) (hv : ∀ j, xs.length ≤ j → j < l.length → ∃ A k c, (l.getD j rec0).2 = .slice A k c) : NoNum w R := by
  intro p hp k
  obtain ⟨pb, off, sp⟩ := p
  obtain rfl : pb = R := hp
  rcases h.own.2 with ⟨h', _⟩ | ⟨g, cap, cur, h', _, hh, _, _, hcap, hpre⟩
  · simp at h'
  · simp only [Value.slice.injEq, Option.some.injEq, Addr.mk.injEq, and_true] at h'
    obtain ⟨rfl, _, rfl⟩ := h'
    have e : cur.toList = recs l := by
      rw [← hpre, List.take_of_length_le]
      rw [Array.length_toList, hcap, hn]; exact Nat.le_refl _
    unfold World.cell?
    simp only [hh]
    split
    · simp
    · rw [← Array.getElem?_toList, e]
      by_cases ho : off < 2 * l.length
      · obtain ⟨j, hj, hoff⟩ : ∃ j, j < l.length ∧ (off = 2 * j ∨ off = 2 * j + 1) := ⟨off / 2, by omega, by omega⟩
        obtain ⟨f0, f1⟩ := recs_get l hj (p := l.getD j rec0) (getD_self l j rec0)
        rcases hoff with rfl | rfl
        · rw [f0]; simp
        · rw [f1]
          have : ∃ A k c, (l.getD j rec0).2 = .slice A k c := by
            by_cases hjx : j < xs.length
            · obtain ⟨A, c, hA, _⟩ := (h.mag j hjx).2.1.form
              exact ⟨A, _, c, hA⟩
            · exact hv j (by omega) hj
          obtain ⟨A, k', c, hA⟩ := this
          rw [hA]; simp
      · rw [List.getElem?_eq_none (by rw [recs_length]; omega)]; simp
/-- What is told is read. -/
theorem Recs.poly (h : Recs w base top v l xs) (hl : l.length = xs.length) : ∃ A c, v = .slice A xs.length c ∧ xs.length ≤ c ∧ Poly w w.heap.size A xs := by
  have hlen := hl
  rcases h.own.2 with ⟨rfl, hx⟩ | ⟨g, cap, cur, rfl, hg, hh, hnc, h63, hcap, hpre⟩
  · have e : xs = [] := List.eq_nil_of_length_eq_zero (by omega)
    subst e
    exact ⟨none, 0, rfl, by simp, Poly.nil _ _ _⟩
  · rw [hl] at hnc ⊢
    refine ⟨_, cap, rfl, hnc, ⟨fun _ => ⟨_, rfl, (Array.getElem?_eq_some_iff.1 hh).1, fun j hj => ?_⟩⟩⟩
    have hjl : j < l.length := by omega
    obtain ⟨f0, f1⟩ := recs_get l hjl (p := l.getD j rec0) (getD_self l j rec0)
    have c0 := h.own.cells (g := g) rfl (2 * j) _ f0
    have c1 := h.own.cells (g := g) rfl (2 * j + 1) _ f1
    obtain ⟨hs, ho, _⟩ := h.mag j hj
    obtain ⟨A, c, hv, hc, hlim, _⟩ := ho.form
    rw [add_plain] at c0 c1
    refine ⟨A, (xs.getD j (false, [])).2.length, c, ?_, ?_, rfl, hc, hlim⟩
    · rw [add_plain, Nat.mul_comm, c0, hs]
    · rw [add_plain, Nat.mul_comm]
      show w.cell? ⟨g, 2 * j + 1, none⟩ = _
      rw [c1, hv]
end
theorem made_recs (n : Nat) : (madeCells #[.bool false, .slice none 0 0] (n * 2)).toList = recs (List.replicate n rec0) := by
  induction n with
  | zero => simp [madeCells, recs]
  | succ n ih =>
    rw [List.replicate_succ', recs_append, ← ih]
    apply List.ext_getElem?
    intro j
    unfold madeCells
    by_cases h1 : j < n * 2
    · rw [List.getElem?_append_left (by simpa using h1)]
      simp [h1, show j < (n + 1) * 2 by omega]
    · rw [List.getElem?_append_right (by simpa using h1)]
      rcases Nat.lt_or_ge j ((n + 1) * 2) with h2 | h2
      · obtain h3 | h3 : j = n * 2 ∨ j = n * 2 + 1 := by omega
        · subst h3; simp [show n * 2 < (n + 1) * 2 by omega, recs, rec0]
        · subst h3; simp [show n * 2 + 1 < (n + 1) * 2 by omega, recs, rec0]
      · rw [List.getElem?_eq_none (by simp; omega), List.getElem?_eq_none (by simp [recs]; omega)]
theorem Recs.made (W : World) {base : Nat} (hb : base ≤ W.heap.size) (n : Nat) (h : n ≤ 8192) : Recs (W.alloc (.cells (madeCells #[.bool false, .slice none 0 0] (n * 2)) 24)) base (W.heap.size + 1) (.slice (some ⟨W.heap.size, 0, none⟩) n n) (List.replicate n rec0) [] := by
  refine ⟨⟨by rw [recs_length], .inr ⟨W.heap.size, n, _, by simp, hb, heap_alloc_new W _, by simp, by simp only [maxLen]; omega, by simp [size_madeCells], ?_⟩⟩, by simp, by omega, fun g hg => ?_, by simp, by simp⟩
  · rw [made_recs, List.length_replicate, List.take_of_length_le (by rw [recs_length]; simp)]
  · simp [Value.ownBlock] at hg; omega
/-- The value v is a new slice of records that hold xs. -/
def Told (w : World) (base : Nat) (v : Value) (xs : List Raw) : Prop := ∃ l top, Recs w base top v l xs ∧ l.length = xs.length ∧ top ≤ w.heap.size
theorem Told.nil (w : World) {base : Nat} (hb : base ≤ w.heap.size) : Told w base (.slice none 0 0) [] :=
  ⟨[], base, ⟨World.ownsRow_nil _ _ _ _, Nat.le_refl _, Nat.le_refl _, fun g hg => by simp [Value.ownBlock] at hg, by simp, by simp⟩, rfl, hb⟩
theorem Told.below {w w' : World} {base : Nat} {v : Value} {xs : List Raw} (h : Told w base v xs) (hb : Below w.heap.size w w') : Told w' base v xs := by
  obtain ⟨l, top, hr, hl, ht⟩ := h
  exact ⟨l, top, hr.below ⟨hb.os, hb.tape, hb.output, hb.size, fun i hi => hb.block i (by omega)⟩, hl, Nat.le_trans ht hb.size⟩
theorem Told.since {w : World} {base base' : Nat} {v : Value} {xs : List Raw} (h : Told w base v xs) (hb : base' ≤ base) : Told w base' v xs := by
  obtain ⟨l, top, hr, hl, ht⟩ := h
  refine ⟨l, top, ⟨?_, hr.len, Nat.le_trans hb hr.low, hr.lt, fun j hj => ⟨(hr.mag j hj).1, (hr.mag j hj).2.1.mono hb, (hr.mag j hj).2.2⟩, hr.apart⟩, hl, ht⟩
  refine ⟨hr.own.1, ?_⟩
  rcases hr.own.2 with hn | ⟨g, cap, cur, e, hg, rest⟩
  · exact .inl hn
  · exact .inr ⟨g, cap, cur, e, Nat.le_trans hb hg, rest⟩
theorem Told.poly {w : World} {base : Nat} {v : Value} {xs : List Raw} (h : Told w base v xs) : ∃ A c, v = .slice A xs.length c ∧ xs.length ≤ c ∧ Poly w w.heap.size A xs := by
  obtain ⟨l, top, hr, hl, _⟩ := h
  exact hr.poly hl
end Go.Proofs.YtjbagikfogejnaaGreatDoor
/- Records are appended; numbers are read. -/
namespace Go.Proofs.YtjbagikfogejnaaGreatDoor
open Go.RowKit Go.Deep
/-- At the slice's address A stand the numbers l (of type int), below block B. -/
structure Nums (w : World) (B : Nat) (A : Option Addr) (l : List Int) : Prop where
  cells : 0 < l.length → ∃ ad, A = some ad ∧ ad.block < B ∧ ∀ j, j < l.length → w.cell? (ad.add j) = some (.int .i64 (l.getD j 0))
theorem Nums.at_ {w : World} {B : Nat} {A : Option Addr} {l : List Int} (h : Nums w B A l) {k : Nat} (hk : k < l.length) : ∃ ad, A = some ad ∧ ad.block < B ∧ w.cell? (ad.add k) = some (.int .i64 (l.getD k 0)) := by
  obtain ⟨ad, e, hb, hc⟩ := h.cells (by omega)
  exact ⟨ad, e, hb, hc k hk⟩
theorem Nums.below {w w' : World} {B : Nat} {A : Option Addr} {l : List Int} (h : Nums w B A l) (hb : Below B w w') : Nums w' B A l :=
  ⟨fun hn => by
    obtain ⟨ad, e, hB, hc⟩ := h.cells hn
    exact ⟨ad, e, hB, fun j hj => by rw [hb.cell (by rw [block_of_add]; exact hB)]; exact hc j hj⟩⟩
theorem Nums.more {w : World} {B B' : Nat} {A : Option Addr} {l : List Int} (h : Nums w B A l) (hB : B ≤ B') : Nums w B' A l :=
  ⟨fun hn => by
    obtain ⟨ad, e, hb, hc⟩ := h.cells hn
    exact ⟨ad, e, by omega, hc⟩⟩
theorem Nums.nil (w : World) (B : Nat) (A : Option Addr) : Nums w B A [] := ⟨fun h => absurd h (by simp)⟩
theorem Recs.grow {W w1 : World} {base top : Nat} {v v1 : Value} {l : List (Bool × Value)} {xs : List Raw} {b : Bool} {u : Value} {ys : List Nat}
    (HR : Recs W base top v l xs) (hll : l.length = xs.length) (ho : Own W top u ys) (htop : top ≤ W.heap.size) (hg : W.grownBy w1 v.ownBlock) (hown : w1.ownsRow base 24 2 v1 (l.length + 1) (recs l ++ [.bool b, u])) :
    Recs w1 base w1.heap.size v1 (l ++ [(b, u)]) (xs ++ [(b, ys)]) := by
  have keep : ∀ {bs : Nat} {u' : Value} {zs : List Nat}, Own W bs u' zs → Own w1 bs u' zs := by
    intro bs u' zs h
    refine h.grown hg ?_
    rcases own_cases u' with hn | ⟨g, hn⟩
    · exact .inl hn
    · right
      rw [hn]
      intro e
      obtain ⟨cs, hc⟩ := h.type hn
      rcases HR.own.2 with ⟨rfl, _⟩ | ⟨g', cap, cur, rfl, _, hh, _⟩
      · simp [Value.ownBlock] at e
      · simp only [Value.ownBlock, Option.some.injEq] at e
        subst e
        rw [hc] at hh
        simp at hh
  have e0 : ∀ i, i < xs.length → (l ++ [(b, u)]).getD i rec0 = l.getD i rec0 := fun i hi => by simp [List.getElem?_append_left, show i < l.length by omega]
  have e1 : (l ++ [(b, u)]).getD xs.length rec0 = (b, u) := by rw [← hll]; simp
  refine ⟨?_, by simp; omega, ?_, fun g hg' => (hown.lt g hg').2, fun j hj => ?_, fun i j hij hj => ?_⟩
  · rw [List.length_append, recs_append]; simpa [recs] using hown
  · exact Nat.le_trans HR.low (Nat.le_trans htop hg.size)
  · by_cases hjx : j < xs.length
    · rw [e0 j hjx, show (xs ++ [(b, ys)]).getD j (false, []) = xs.getD j (false, []) by simp [List.getElem?_append_left, hjx]]
      obtain ⟨h1, h2, h3⟩ := HR.mag j hjx
      exact ⟨h1, keep h2, fun g hg' => (keep h2).lt hg'⟩
    · obtain rfl : j = xs.length := by simp at hj; omega
      rw [e1, show (xs ++ [(b, ys)]).getD xs.length (false, []) = (b, ys) by simp]
      exact ⟨rfl, (keep ho).mono HR.low, fun g hg' => (keep ho).lt hg'⟩
  · by_cases hjx : j < xs.length
    · rw [e0 i (by omega), e0 j hjx]; exact HR.apart i j hij hjx
    · obtain rfl : j = xs.length := by simp at hj; omega
      rw [e0 i hij, e1]
      intro g g' hg1 hg2
      have h1 := (HR.mag i hij).2.2 g hg1
      have h2 := (ho.own.lt g' hg2).1
      omega
section
variable {ops : Array Oper} {rest : List Oper} {o : Oper} {a : Act} {Q : Exit → Act → World → Prop}
end
end Go.Proofs.YtjbagikfogejnaaGreatDoor
/- Numbers in digits of 32 bits. -/
namespace Go.Proofs.YtjbagikfogejnaaGreatDoor
/-- 2 to the power 32. -/
def W32 : Nat := 4294967296
theorem W32_eq : W32 = 4294967296 := by unfold W32; rfl
theorem W32_pos : 0 < W32 := by rw [W32_eq]; decide
theorem W64_sq : W64 = W32 * W32 := by rw [W64_eq, W32_eq]
theorem W32_lt : W32 < W64 := by rw [W64_eq, W32_eq]; decide
attribute [irreducible] W32
/-- The number of digits of 32 bits. -/
def val32 : List Nat → Nat
  | [] => 0
  | x :: xs => x + W32 * val32 xs
def Tiny (xs : List Nat) : Prop := ∀ x ∈ xs, x < W32
theorem Tiny.nil : Tiny [] := fun _ h => nomatch h
theorem Tiny.cons {x : Nat} {xs : List Nat} (hx : x < W32) (h : Tiny xs) : Tiny (x :: xs) := by
  intro y hy
  rcases List.mem_cons.1 hy with rfl | hy
  · exact hx
  · exact h y hy
theorem Tiny.head {x : Nat} {xs : List Nat} (h : Tiny (x :: xs)) : x < W32 := h x (by simp)
theorem Tiny.tail {x : Nat} {xs : List Nat} (h : Tiny (x :: xs)) : Tiny xs := fun y hy => h y (by simp [hy])
theorem Tiny.append {xs ys : List Nat} (h : Tiny xs) (k : Tiny ys) : Tiny (xs ++ ys) := by
  intro y hy
  rcases List.mem_append.1 hy with hy | hy
  · exact h y hy
  · exact k y hy
theorem Tiny.one {x : Nat} (hx : x < W32) : Tiny [x] := Tiny.cons hx Tiny.nil
theorem Tiny.take {xs : List Nat} (h : Tiny xs) (n : Nat) : Tiny (xs.take n) := fun y hy => h y (List.mem_of_mem_take hy)
theorem Tiny.getD {xs : List Nat} (h : Tiny xs) (k : Nat) : xs.getD k 0 < W32 := by
  rw [List.getD_eq_getElem?_getD]
  cases hk : xs[k]? with
  | none => simpa using W32_pos
  | some x => simpa using h x (List.mem_of_getElem? hk)
theorem Tiny.set {xs : List Nat} (h : Tiny xs) (k x : Nat) (hx : x < W32) : Tiny (xs.set k x) := by
  intro y hy
  rcases List.mem_or_eq_of_mem_set hy with hy | rfl
  · exact h y hy
  · exact hx
theorem Tiny.zeros (n : Nat) : Tiny (List.replicate n 0) := by
  intro y hy
  rw [(List.mem_replicate.1 hy).2]; exact W32_pos
theorem Tiny.small {xs : List Nat} (h : Tiny xs) : Small xs := fun x hx => Nat.lt_trans (h x hx) W32_lt
theorem Tiny.trim {xs : List Nat} (h : Tiny xs) : Tiny (trimL xs) := by rw [trimL_prefix]; exact h.take _
theorem val32_append (xs ys : List Nat) : val32 (xs ++ ys) = val32 xs + W32 ^ xs.length * val32 ys := by
  induction xs with
  | nil => simp [val32]
  | cons x xs ih => simp only [List.cons_append, val32, ih, List.length_cons, Nat.pow_succ]; grind
theorem val32_snoc (xs : List Nat) (y : Nat) : val32 (xs ++ [y]) = val32 xs + W32 ^ xs.length * y := by
  rw [val32_append]; simp [val32]
theorem val32_zeros (n : Nat) : val32 (List.replicate n 0) = 0 := by
  induction n with
  | zero => rfl
  | succ n ih => simp [List.replicate_succ, val32, ih]
theorem val32_lt {xs : List Nat} (h : Tiny xs) : val32 xs < W32 ^ xs.length := by
  induction xs with
  | nil => simp [val32]
  | cons x xs ih =>
    have h1 := ih h.tail
    have h2 := h.head
    simp only [val32, List.length_cons, Nat.pow_succ]
    have h3 : W32 * (val32 xs + 1) ≤ W32 * W32 ^ xs.length := Nat.mul_le_mul_left _ h1
    rw [Nat.mul_comm (W32 ^ xs.length)]
    rw [Nat.mul_add] at h3
    omega
theorem val32_take_succ (xs : List Nat) (k : Nat) (hk : k < xs.length) : val32 (xs.take (k + 1)) = val32 (xs.take k) + W32 ^ k * xs.getD k 0 := by
  rw [List.take_succ_eq_append_getElem hk, val32_snoc, List.length_take, Nat.min_eq_left (by omega)]; simp [hk]
theorem val32_take_step (xs : List Nat) (k : Nat) : val32 (xs.take (k + 1)) = val32 (xs.take k) + W32 ^ k * xs.getD k 0 := by
  by_cases hk : k < xs.length
  · exact val32_take_succ xs k hk
  · rw [List.take_of_length_le (by omega), List.take_of_length_le (by omega)]
    simp [show xs[k]? = none from List.getElem?_eq_none (by omega)]
theorem val32_trim (xs : List Nat) : val32 (trimL xs) = val32 xs := by
  have key : ∀ (n : Nat) (xs : List Nat), xs.length = n → val32 (trimL xs) = val32 xs := by
    intro n
    induction n with
    | zero => intro xs h; obtain rfl := List.eq_nil_of_length_eq_zero h; rfl
    | succ n ih =>
      intro xs h
      have e : xs = xs.take n ++ [xs.getD n 0] := by
        conv => lhs; rw [← List.take_of_length_le (l := xs) (i := n + 1) (by omega), List.take_succ_eq_append_getElem (by omega)]
        simp [show n < xs.length by omega]
      have hl : (xs.take n).length = n := by rw [List.length_take]; omega
      rw [e]
      generalize xs.getD n 0 = x
      generalize xs.take n = ys at hl
      by_cases hx : x = 0
      · subst hx; rw [trimL_snoc_zero, ih ys hl, val32_snoc]; simp
      · rw [trimL_snoc_pos _ _ hx]
  exact key _ xs rfl
/-- Each limb as two digits. -/
def hv : List Nat → List Nat
  | [] => []
  | x :: xs => x % W32 :: x / W32 :: hv xs
theorem hv_append (xs ys : List Nat) : hv (xs ++ ys) = hv xs ++ hv ys := by
  induction xs with
  | nil => rfl
  | cons x xs ih => simp [hv, ih]
theorem hv_length (xs : List Nat) : (hv xs).length = 2 * xs.length := by
  induction xs with
  | nil => rfl
  | cons x xs ih => simp [hv, ih]; omega
theorem hv_take_succ (xs : List Nat) (k : Nat) (hk : k < xs.length) : hv (xs.take (k + 1)) = hv (xs.take k) ++ [xs.getD k 0 % W32, xs.getD k 0 / W32] := by
  rw [List.take_succ_eq_append_getElem hk, hv_append]; simp [hk, hv]
theorem val32_hv (xs : List Nat) : val32 (hv xs) = val xs := by
  induction xs with
  | nil => rfl
  | cons x xs ih =>
    simp only [hv, val32, val, ih]
    have h := Nat.mod_add_div x W32
    rw [W64_sq]; grind
theorem tiny_hv {xs : List Nat} (h : Small xs) : Tiny (hv xs) := by
  induction xs with
  | nil => exact Tiny.nil
  | cons x xs ih =>
    refine Tiny.cons (Nat.mod_lt _ W32_pos) (Tiny.cons ?_ (ih h.tail))
    exact Nat.div_lt_of_lt_mul (by rw [← W64_sq]; exact h.head)
/-- Two digits each as a limb. -/
def pr : List Nat → List Nat
  | [] => []
  | [x] => [x]
  | x :: y :: r => (x + W32 * y) :: pr r
theorem pr_append (xs ys : List Nat) (k : Nat) (h : xs.length = 2 * k) : pr (xs ++ ys) = pr xs ++ pr ys := by
  induction k generalizing xs with
  | zero =>
    obtain rfl := List.eq_nil_of_length_eq_zero h
    rfl
  | succ k ih =>
    match xs, h with
    | x :: y :: r, h => simp only [List.cons_append, pr, ih r (by simp at h; omega)]
theorem val_pr : ∀ (n : Nat) (xs : List Nat), xs.length ≤ n → val (pr xs) = val32 xs
  | _, [], _ => rfl
  | _, [x], _ => by simp [pr, val, val32]
  | 0, _ :: _ :: _, h => by simp at h
  | n + 1, x :: y :: r, h => by
    simp only [pr, val, val32, val_pr n r (by simp at h; omega)]
    rw [W64_sq]; grind
theorem pr_length : ∀ (n : Nat) (xs : List Nat), xs.length ≤ n → (pr xs).length ≤ xs.length
  | _, [], _ => Nat.le_refl _
  | _, [_], _ => Nat.le_refl _
  | 0, _ :: _ :: _, h => by simp at h
  | n + 1, x :: y :: r, h => by
    have := pr_length n r (by simp at h; omega)
    simp only [pr, List.length_cons]; omega
theorem pr_take_two (xs : List Nat) (k : Nat) (hk : 2 * k + 1 < xs.length) : pr (xs.take (2 * k + 2)) = pr (xs.take (2 * k)) ++ [xs.getD (2 * k) 0 + W32 * xs.getD (2 * k + 1) 0] := by
  rw [show 2 * k + 2 = (2 * k + 1) + 1 by omega, List.take_succ_eq_append_getElem hk, List.take_succ_eq_append_getElem (by omega), List.append_assoc]
  rw [pr_append _ _ k (by rw [List.length_take]; omega)]
  simp [pr, hk, show 2 * k < xs.length by omega]
theorem pr_take_one (xs : List Nat) (k : Nat) (hk : 2 * k + 1 = xs.length) : pr xs = pr (xs.take (2 * k)) ++ [xs.getD (2 * k) 0] := by
  have h : xs = xs.take (2 * k) ++ [xs.getD (2 * k) 0] := by
    conv => lhs; rw [← List.take_of_length_le (l := xs) (i := 2 * k + 1) (by omega), List.take_succ_eq_append_getElem (by omega)]
    simp [show 2 * k < xs.length by omega]
  conv => lhs; rw [h]
  rw [pr_append _ _ k (by rw [List.length_take]; omega)]
  rfl
/-- Digits without noughts on top. -/
def dig (xs : List Nat) : List Nat := trimL (hv xs)
theorem val32_dig (xs : List Nat) : val32 (dig xs) = val xs := by unfold dig; rw [val32_trim, val32_hv]
theorem tiny_dig {xs : List Nat} (h : Small xs) : Tiny (dig xs) := (tiny_hv h).trim
theorem dig_length (xs : List Nat) : (dig xs).length ≤ 2 * xs.length := by
  have := length_trimL_le (hv xs)
  rw [hv_length] at this; exact this
theorem val32_set (os : List Nat) (j v : Nat) (hj : j < os.length) : val32 (os.set j v) + W32 ^ j * os.getD j 0 = val32 os + W32 ^ j * v := by
  induction os generalizing j with
  | nil => simp at hj
  | cons x os ih =>
    cases j with
    | zero => simp [val32]; omega
    | succ j =>
      have h := ih j (by simpa using hj)
      simp only [List.set_cons_succ, val32, List.getD_cons_succ, Nat.pow_succ]
      generalize val32 (os.set j v) = a at h ⊢
      generalize val32 os = b at h ⊢
      generalize W32 ^ j = P at h ⊢
      generalize os.getD j 0 = o at h ⊢
      have h1 : W32 * (a + P * o) = W32 * (b + P * v) := by rw [h]
      rw [Nat.mul_add, Nat.mul_add] at h1
      have e1 : P * W32 * o = W32 * (P * o) := by ac_rfl
      have e2 : P * W32 * v = W32 * (P * v) := by ac_rfl
      rw [e1, e2]
      omega
theorem step_bound {x y o c : Nat} (hx : x < W32) (hy : y < W32) (ho : o < W32) (hc : c < W32) : x * y + o + c < W64 := by
  have h1 : x * y ≤ (W32 - 1) * (W32 - 1) := Nat.mul_le_mul (by omega) (by omega)
  rw [W64_sq]
  obtain ⟨h, hh⟩ : ∃ h, W32 = h + 1 := ⟨W32 - 1, by have := W32_pos; omega⟩
  rw [hh] at h1 ho hc ⊢
  rw [Nat.add_sub_cancel] at h1
  rw [Nat.add_mul, Nat.mul_add]
  omega
theorem div32_lt {s : Nat} (h : s < W64) : s / W32 < W32 := Nat.div_lt_of_lt_mul (by rw [← W64_sq]; exact h)
/-- One step of a product. -/
theorem prod_step {v c a b : Nat} {os : List Nat} {i k x y s : Nat} (hk : i + k < os.length) (hs : x * y + os.getD (i + k) 0 + c = s) (h : val32 os + c * W32 ^ (i + k) = v + x * a * W32 ^ i) (hb : b = a + W32 ^ k * y) :
    val32 (os.set (i + k) (s % W32)) + s / W32 * W32 ^ (i + k + 1) = v + x * b * W32 ^ i := by
  have h1 := val32_set os (i + k) (s % W32) hk
  have h2 := Nat.mod_add_div s W32
  have h3 : x * b * W32 ^ i = x * a * W32 ^ i + W32 ^ (i + k) * (x * y) := by
    rw [hb, Nat.mul_add, Nat.add_mul, Nat.pow_add]
    congr 1
    ac_rfl
  have e1 : s / W32 * W32 ^ (i + k + 1) = W32 ^ (i + k) * (W32 * (s / W32)) := by rw [Nat.pow_succ]; ac_rfl
  have e2 : c * W32 ^ (i + k) = W32 ^ (i + k) * c := Nat.mul_comm _ _
  rw [h3, e1]
  rw [e2] at h
  have h4 : W32 ^ (i + k) * (s % W32 + W32 * (s / W32)) = W32 ^ (i + k) * (x * y + os.getD (i + k) 0 + c) := by rw [h2, hs]
  rw [Nat.mul_add, Nat.mul_add, Nat.mul_add] at h4
  omega
/-- One step of a sum. -/
theorem add_step {P a b o c x y s : Nat} (h : o + c * P = a + b) (hs : x + y + c = s) : o + P * (s % W32) + s / W32 * (P * W32) = a + P * x + (b + P * y) := by
  have h2 := Nat.mod_add_div s W32
  have e1 : s / W32 * (P * W32) = P * (W32 * (s / W32)) := by ac_rfl
  have e2 : c * P = P * c := Nat.mul_comm _ _
  rw [e1]
  rw [e2] at h
  have h4 : P * (s % W32 + W32 * (s / W32)) = P * (x + y + c) := by rw [h2, hs]
  rw [Nat.mul_add, Nat.mul_add, Nat.mul_add] at h4
  omega
/-- One step of a difference. -/
theorem sub_step {P a b o c x y s t : Nat} (h : o + b = a + c * P) (hs : s + y + c = W32 + x) (hc : c ≤ 1) (hx : x < W32) (ht : t = 1 - s / W32) : o + P * (s % W32) + (b + P * y) = a + P * x + t * (P * W32) ∧ t ≤ 1 ∧ s < 2 * W32 := by
  have h2 := Nat.mod_add_div s W32
  have hs2 : s < 2 * W32 := by omega
  have hd : s / W32 < 2 := Nat.div_lt_of_lt_mul (m := s) (n := W32) (k := 2) (by omega)
  generalize s / W32 = q at h2 hd ht
  have e2 : c * P = P * c := Nat.mul_comm _ _
  rw [e2] at h
  refine ⟨?_, by omega, hs2⟩
  have h4 : P * (s % W32 + W32 * q + y + c) = P * (W32 + x) := by rw [h2, hs]
  rw [Nat.mul_add, Nat.mul_add, Nat.mul_add, Nat.mul_add] at h4
  have e3 : t * (P * W32) + P * (W32 * q) = P * W32 := by
    rw [ht]
    obtain h5 | h5 : q = 0 ∨ q = 1 := by omega
    · rw [h5]; simp
    · rw [h5]; simp
  omega
theorem norm_len {xs : List Nat} {n : Nat} (hn : Norm xs) (h : val32 xs < W32 ^ n) : xs.length ≤ n := by
  rcases hn with rfl | hn
  · simp
  · rcases Nat.eq_zero_or_pos xs.length with h0 | h0
    · omega
    · have h1 := val32_take_succ xs (xs.length - 1) (by omega)
      rw [show xs.length - 1 + 1 = xs.length by omega, List.take_length] at h1
      have h2 : W32 ^ (xs.length - 1) * 1 ≤ W32 ^ (xs.length - 1) * xs.getD (xs.length - 1) 0 := Nat.mul_le_mul_left _ (by omega)
      rcases Nat.lt_or_ge n xs.length with h3 | h3
      · have h4 : W32 ^ n ≤ W32 ^ (xs.length - 1) := Nat.pow_le_pow_right W32_pos (by omega)
        omega
      · exact h3
theorem norm_dig (xs : List Nat) : Norm (dig xs) := norm_trimL _
theorem sub_end {o a b c n : Nat} (h : o + b = a + c * W32 ^ n) (hc : c ≤ 1) (ho : o < W32 ^ n) (hba : b ≤ a) : o = a - b := by
  obtain h5 | h5 : c = 0 ∨ c = 1 := by omega
  · rw [h5] at h; omega
  · rw [h5, Nat.one_mul] at h; omega
end Go.Proofs.YtjbagikfogejnaaGreatDoor
/- The package rosetteref00: natural numbers: NatTrim, low, halves, limbs, digit. -/
namespace Go.Proofs.YtjbagikfogejnaaGreatDoor
open Go.RowKit Go.Deep
/-- What is left when the noughts on top are cut off. -/
theorem trim_stop {xs : List Nat} {n m : Nat} (hn : n ≤ xs.length) (h : (trimL (xs.take n)).length = m) (hs : n = 0 ∨ xs.getD (n - 1) 0 ≠ 0) : n = m := by
  rcases hs with rfl | hs
  · rw [← h]; simp [trimL]
  · rcases Nat.eq_zero_or_pos n with rfl | hp
    · rw [← h]; simp [trimL]
    · obtain ⟨k, rfl⟩ : ∃ k, n = k + 1 := ⟨n - 1, by omega⟩
      rw [trimL_pos xs k (by omega) (by simpa using hs)] at h
      rw [← h, List.length_take]; omega
set_option maxRecDepth 100000 in
theorem ref_trim (A : Option Addr) (l c : Nat) (xs : List Nat) (w : World) {B : Nat} (h1 : Lim w B A xs) (e1 : l = xs.length) (hc : l ≤ c) (hl : l ≤ 1099511627776) :
    Calls Tryz.prog 65 #[.slice A l c] w fun e w' => ∃ v, e = .returned v ∧ Own w' w.heap.size v (limbs (val xs)) ∧ Below w.heap.size w w' := by
  have HL := Lib.hid e1
  have hcI : (l : Int) ≤ (c : Int) := by omega
  have hlI : (l : Int) ≤ 1099511627776 := by omega
  obtain ⟨m, hm⟩ : ∃ m, (trimL xs).length = m := ⟨_, rfl⟩
  have HM := Lib.hid hm
  have hml : m ≤ l := by rw [← hm, e1]; exact length_trimL_le xs
  have HR := Lib.hid (show limbs (val xs) = xs.take m by rw [← trimL_eq h1.small, ← hm]; exact trimL_prefix xs)
  clear e1 hc hl hm
  go_enter Tryz.func65, Tryz.ntmps65
  go_upto_block 0 with (fail)
  go_cut [3] (fun t3 wx => w = wx ∧ t3 = .int .i64 (m : Int))
  case first =>
    go_wp2_with fail
    go_loopg [3] l (fun gk t3 wr => gk ≤ l ∧ w = wr ∧ t3 = .int .i64 (gk : Int) ∧ (trimL (xs.take gk)).length = m)
    case atStart => exact ⟨Nat.le_refl l, rfl, rfl, by rw [HL.out, List.take_length]; exact HM.out⟩
    case round =>
      obtain ⟨hk, rfl, rfl, htop⟩ := hrel
      have HT := Lib.hid htop
      clear htop
      by_cases h0 : gk = 0
      · subst h0
        have HE := Lib.hid (trim_stop (Nat.zero_le _) HT.out (.inl rfl))
        go_wp2_with fail
        go_meet
        rw [← HE.out]
        exact ⟨rfl, rfl⟩
      · obtain ⟨q, rfl⟩ : ∃ q, gk = q + 1 := ⟨gk - 1, by omega⟩
        have hqx : q < xs.length := by rw [← HL.out]; omega
        obtain ⟨ad, rfl, _, hc⟩ := h1.at_ hqx
        obtain ⟨x, hx⟩ : ∃ x, xs.getD q 0 = x := ⟨_, rfl⟩
        rw [hx] at hc
        have hqI : ((q + 1 : Nat) : Int) - 1 = (q : Int) := by omega
        have hq1 : (0 : Int) < ((q + 1 : Nat) : Int) := by omega
        have hql : (q : Int) < (l : Int) := by omega
        have hqlN : q < l := by omega
        have HQ := Lib.hid hqx
        have HX := Lib.hid hx
        obtain ⟨k, hkk⟩ : ∃ k, q + 1 = k := ⟨_, rfl⟩
        rw [hkk] at hk hqI hq1 ⊢
        have HK := Lib.hid hkk
        clear h0 hkk hqx hx
        by_cases hx0 : x = 0
        · subst hx0
          have HT2 := Lib.hid (show (trimL (xs.take q)).length = m by rw [← HT.out, trimL_zero xs q HQ.out HX.out])
          go_wp2_with fail
          go_roundg q
          case measure => have := HK.out; omega
          case rel => exact ⟨by omega, rfl, rfl, HT2.out⟩
        · have HE := Lib.hid (trim_stop (by rw [← HL.out]; omega) HT.out (.inr (by rw [Nat.add_sub_cancel, HX.out]; exact hx0)))
          have tx : ((x : Int) == 0) = false := beq_eq_false_iff_ne.2 (by omega)
          clear hx0
          go_wp2_with fail
          go_meet
          rw [← HE.out, HK.out]
          exact ⟨rfl, rfl⟩
  case rest =>
    obtain ⟨rfl, rfl⟩ := hcut
    have hmI : (m : Int) ≤ (l : Int) := by omega
    have HML := Lib.hid (show m = (xs.take m).length by rw [List.length_take, ← HL.out]; omega)
    have HLE := Lib.hid (show ([] : List Nat).length + (xs.take m).length ≤ 17592186044416 by rw [← HML.out]; simp; omega)
    have hlt := h1.take m
    go_wp2_with (at_builtin; refine append_lim (w0 := w) w.heap.size rfl _ _ rfl _ [] A m c (xs.take m) (by rfl) (by rfl) HML.out hlt (Own.nil _ _) (Below.refl _ _) (Nat.le_refl _) HLE.out fun v1 w1 hown hbel _ _ => ?_)
    obtain ⟨A1, k1, c1, rfl⟩ := hown.slice
    go_wp2_with fail
    go_ret
    rw [HR.out]
    exact ⟨_, rfl, by simpa using hown, hbel⟩
set_option maxRecDepth 100000 in
theorem ref_low (A : Option Addr) (l c : Nat) (xs : List Nat) (w : World) {B : Nat} (h1 : Lim w B A xs) (e1 : l = xs.length) (hc : l ≤ c) (hl : l ≤ 1099511627776) :
    Calls Tryz.prog 150 #[.slice A l c] w fun e w' => e = .returned (.slice A (trimL xs).length c) ∧ w = w' := by
  have HL := Lib.hid e1
  have hcI : (l : Int) ≤ (c : Int) := by omega
  have hlI : (l : Int) ≤ 1099511627776 := by omega
  obtain ⟨m, hm⟩ : ∃ m, (trimL xs).length = m := ⟨_, rfl⟩
  have HM := Lib.hid hm
  have hml : m ≤ l := by rw [← hm, e1]; exact length_trimL_le xs
  rw [hm]
  clear e1 hc hl hm
  go_enter Tryz.func150, Tryz.ntmps150
  go_upto_block 0 with (fail)
  go_cut [3] (fun t3 wx => w = wx ∧ t3 = .int .i64 (m : Int))
  case first =>
    go_wp2_with fail
    go_loopg [3] l (fun gk t3 wr => gk ≤ l ∧ w = wr ∧ t3 = .int .i64 (gk : Int) ∧ (trimL (xs.take gk)).length = m)
    case atStart => exact ⟨Nat.le_refl l, rfl, rfl, by rw [HL.out, List.take_length]; exact HM.out⟩
    case round =>
      obtain ⟨hk, rfl, rfl, htop⟩ := hrel
      have HT := Lib.hid htop
      clear htop
      by_cases h0 : gk = 0
      · subst h0
        have HE := Lib.hid (trim_stop (Nat.zero_le _) HT.out (.inl rfl))
        go_wp2_with fail
        go_meet
        rw [← HE.out]
        exact ⟨rfl, rfl⟩
      · obtain ⟨q, rfl⟩ : ∃ q, gk = q + 1 := ⟨gk - 1, by omega⟩
        have hqx : q < xs.length := by rw [← HL.out]; omega
        obtain ⟨ad, rfl, _, hc⟩ := h1.at_ hqx
        obtain ⟨x, hx⟩ : ∃ x, xs.getD q 0 = x := ⟨_, rfl⟩
        rw [hx] at hc
        have hqI : ((q + 1 : Nat) : Int) - 1 = (q : Int) := by omega
        have hq1 : (0 : Int) < ((q + 1 : Nat) : Int) := by omega
        have hql : (q : Int) < (l : Int) := by omega
        have hqlN : q < l := by omega
        have HQ := Lib.hid hqx
        have HX := Lib.hid hx
        obtain ⟨k, hkk⟩ : ∃ k, q + 1 = k := ⟨_, rfl⟩
        rw [hkk] at hk hqI hq1 ⊢
        have HK := Lib.hid hkk
        clear h0 hkk hqx hx
        by_cases hx0 : x = 0
        · subst hx0
          have HT2 := Lib.hid (show (trimL (xs.take q)).length = m by rw [← HT.out, trimL_zero xs q HQ.out HX.out])
          go_wp2_with fail
          go_roundg q
          case measure => have := HK.out; omega
          case rel => exact ⟨by omega, rfl, rfl, HT2.out⟩
        · have HE := Lib.hid (trim_stop (by rw [← HL.out]; omega) HT.out (.inr (by rw [Nat.add_sub_cancel, HX.out]; exact hx0)))
          have tx : ((x : Int) == 0) = false := beq_eq_false_iff_ne.2 (by omega)
          clear hx0
          go_wp2_with fail
          go_meet
          rw [← HE.out, HK.out]
          exact ⟨rfl, rfl⟩
  case rest =>
    obtain ⟨rfl, rfl⟩ := hcut
    have hmI : (m : Int) ≤ (l : Int) := by omega
    go_wp2_with fail
    go_ret
    exact ⟨rfl, rfl⟩
section
variable {ops : Array Oper} {rest : List Oper} {o : Oper} {a : Act} {Q : Exit → Act → World → Prop}
/-- append(v, x, y) -/
theorem append_two {w0 W : World} (base : Nat) (hgd : o.guard = none) (s x : Operand)
    (ho : o.op = .call { callee := .builtin .append, args := #[s, x], argTypes := #[22, 22] })
    (v : Value) (xs : List Nat) (y z : Nat) (hs : a.eval s = v) (hx : a.eval x = .slice (some ⟨W.heap.size, 0, none⟩) 2 2) (hy : y < W64) (hz : z < W64)
    (HO : Own W base v xs) (HB : Below base w0 W) (hbase : base ≤ W.heap.size) (hl : xs.length + 2 ≤ 17592186044416)
    (h : ∀ v1 w1, Own w1 base v1 (xs ++ [y, z]) → Below base w0 w1 → W.grownBy w1 v.ownBlock → wpList Tryz.prog ops Q rest (a.put o.dst v1) w1) :
    wpList Tryz.prog ops Q (o :: rest) a (W.alloc (.cells #[.int .u64 (y : Int), .int .u64 (z : Int)] 41)) := by
  refine append_any (w0 := w0) base hgd s x ho v xs ⟨W.heap.size, 0, none⟩ 2 2 [y, z] hs hx rfl (fun j hj => ?_) (Small.cons hy (Small.one hz)) (HO.alloc _) (HB.alloc hbase _) (by simp; omega) (by simpa using hl) ?_
  · have e : j = 0 ∨ j = 1 := by simp at hj; omega
    rw [add_plain, cell_of_row _ _ _ _ _ (0, 0) (heap_alloc_new W _)]
    rcases e with rfl | rfl <;> rfl
  · intro v1 w1 h1 h2 h3 _
    exact h v1 w1 h1 h2 (grownBy_trans ((grownBy_of_below ((Below.refl _ W).alloc (Nat.le_refl _) _) _)) h3)
end
set_option maxRecDepth 100000 in
theorem ref_halves (A : Option Addr) (l c : Nat) (xs : List Nat) (w : World) (h1 : Lim w w.heap.size A xs) (e1 : l = xs.length) (hl : l ≤ 549755813888) :
    Calls Tryz.prog 112 #[.slice A l c] w fun e w' => ∃ v, e = .returned v ∧ Own w' w.heap.size v (dig xs) ∧ Below w.heap.size w w' := by
  have HL := Lib.hid e1
  have HL2 := Lib.hid hl
  have hlI : (l : Int) ≤ 549755813888 := by omega
  clear e1 hl
  go_enter Tryz.func112, Tryz.ntmps112
  go_wp2_with fail
  go_loopw [3, 4] (fun t3 t4 wr => ∃ k : Nat, k ≤ l ∧ t4 = .int .i64 (k : Int) ∧ Own wr w.heap.size t3 (hv (xs.take k)) ∧ Below w.heap.size w wr) (fun _ t4 _ => l - (intOf t4).toNat)
  case atStart => exact ⟨0, by omega, rfl, by rw [List.take_zero]; exact Own.nil _ _, Below.refl _ _⟩
  case round =>
    obtain ⟨k, hk, rfl, hown, hbel⟩ := hrel
    obtain ⟨A3, l3, c3, rfl⟩ := hown.slice
    by_cases hlt : k < l
    · have HK := Lib.hid (show k < xs.length by rw [← HL.out]; exact hlt)
      obtain ⟨ad, rfl, _, hc⟩ := (h1.below hbel).at_ HK.out
      obtain ⟨x, hx⟩ : ∃ x, xs.getD k 0 = x := ⟨_, rfl⟩
      have hxs : x < W64 := hx ▸ h1.small.getD k
      rw [hx] at hc
      have hkI : (k : Int) < (l : Int) := by omega
      obtain ⟨y, hy⟩ : ∃ y, x % 4294967296 = y := ⟨_, rfl⟩
      obtain ⟨z, hz⟩ : ∃ z, x / 4294967296 = z := ⟨_, rfl⟩
      have hyI : (x : Int) % 4294967296 = (y : Int) := by omega
      have hzI : (x : Int) / 4294967296 = (z : Int) := by omega
      have HS := Lib.hid (show hv (xs.take (k + 1)) = hv (xs.take k) ++ [y, z] by rw [hv_take_succ xs k HK.out, hx, W32_eq, hy, hz])
      have r1 := later_cell hc
      have hxW := hxs
      rw [W64_eq] at hxW
      have HM := Lib.hid (show y < W64 by rw [W64_eq]; omega)
      have HD := Lib.hid (show z < W64 by rw [W64_eq]; omega)
      have HLE := Lib.hid (show (hv (xs.take k)).length + 2 ≤ 17592186044416 by rw [hv_length, List.length_take]; have := HL2.out; omega)
      have HX := Lib.hid hxW
      clear hx hxs hxW hc hy hz
      go_wp2_with fail
      have hxI : (x : Int) < 18446744073709551616 := by have := HX.out; omega
      refine wp_region_stages (fun w' => ∃ δ : Later Nix wr, w' = δ.world) [(false, 0), (false, 1), (false, 2), (false, 3), (false, 4), (false, 5), (false, 6), (false, 7), (false, 8), (false, 9), (false, 10), (true, 11)] 12 [.reads [_, _, _, _, _, _, _, _, _, _, _], .loud _] [_, _] (by kernel_rfl) (by kernel_rfl) rfl rfl ?_ ?_
      · exact ⟨⟨_, nix_drawn wr⟩, rfl⟩
      refine wpStages_reads ?_
      repeat (go_big_quiet_step (fail))
      refine wpQuiet_nil ?_
      refine wpStages_loud rfl ?_
      intro K hK
      go_big_op
      have hA : Ext Nix wr ((wr.drewN 1).alloc (.cells #[.int .u64 (y : Int), .int .u64 (z : Int)] 41)) := (nix_drawn wr).later (Ext.of_below ((Below.refl _ _).alloc (Nat.le_refl _) _))
      refine hK _ _ ⟨⟨_, hA⟩, rfl⟩ ?_
      clear hK K hxI
      refine wpStages_nil ?_
      go_wp2_with (at_builtin; refine append_two (w0 := w) w.heap.size rfl _ _ rfl _ (hv (xs.take k)) y z (by rfl) (by rfl) HM.out HD.out (hown.below (below_drewN (Below.refl _ wr) 1)) (below_drewN hbel 1) hbel.size HLE.out ?_)
      intro v1 w1 hown1 hbel1 _
      rw [← HS.out] at hown1
      go_wp2_with fail
      exact ⟨⟨k + 1, by omega, by go_num, hown1, hbel1⟩, by simp [intOf]; omega⟩
    · obtain rfl : k = l := by omega
      rw [List.take_of_length_le (by rw [← HL.out]; exact Nat.le_refl _)] at hown
      obtain ⟨A4, c4, e4, hc4, hlim4, _⟩ := hown.form
      injection e4 with e41 e42 e43
      subst e41 e42 e43
      have HO := Lib.hid hown
      have HLL := Lib.hid (show (hv xs).length ≤ 1099511627776 by rw [hv_length, ← HL.out]; have := HL2.out; omega)
      have HC := Lib.hid hc4
      clear hown hc4
      go_wp2_with fail
      refine (ref_low A3 (hv xs).length c3 (hv xs) wr hlim4 rfl HC.out HLL.out).mono ?_
      rintro e w2 ⟨rfl, rfl⟩
      go_wp2_with fail
      go_ret
      refine ⟨_, rfl, ?_, hbel⟩
      have h2 := HO.out.prefix (length_trimL_le (hv xs))
      rw [← trimL_prefix] at h2
      exact h2
end Go.Proofs.YtjbagikfogejnaaGreatDoor
/- The package rosetteref00: natural numbers: digit, limbs, NatBits, NatCmp. -/
namespace Go.Proofs.YtjbagikfogejnaaGreatDoor
open Go.RowKit Go.Deep
set_option maxRecDepth 100000 in
theorem ref_digit (A : Option Addr) (l c i : Nat) (xs : List Nat) (w : World) {B : Nat} (h1 : Lim w B A xs) (e1 : l = xs.length) :
    Calls Tryz.prog 143 #[.slice A l c, .int .i64 (i : Int)] w fun e w' => e = .returned (.int .u64 ((xs.getD i 0 : Nat) : Int)) ∧ w = w' := by
  by_cases hi : i < l
  · obtain ⟨ad, rfl, _, hc⟩ := h1.at_ (show i < xs.length by rw [← e1]; exact hi)
    obtain ⟨x, hx⟩ : ∃ x, xs.getD i 0 = x := ⟨_, rfl⟩
    rw [hx] at hc ⊢
    have hiI : (i : Int) < (l : Int) := by omega
    clear e1 hx
    go_enter Tryz.func143, Tryz.ntmps143
    go_wp2_with fail
    go_ret
    exact ⟨rfl, rfl⟩
  · have hx : xs.getD i 0 = 0 := by simp [show xs[i]? = none from List.getElem?_eq_none (by omega)]
    rw [hx]
    have hiI : (l : Int) ≤ (i : Int) := by omega
    clear e1 hx hi
    go_enter Tryz.func143, Tryz.ntmps143
    go_wp2_with fail
    go_ret
    exact ⟨rfl, rfl⟩
set_option maxRecDepth 100000 in
theorem ref_limbs (A : Option Addr) (l c : Nat) (d : List Nat) (w : World) (h1 : Lim w w.heap.size A d) (ht : Tiny d) (e1 : l = d.length) (hl : l ≤ 1099511627776) :
    Calls Tryz.prog 114 #[.slice A l c] w fun e w' => ∃ v, e = .returned v ∧ Own w' w.heap.size v (limbs (val32 d)) ∧ Below w.heap.size w w' := by
  have HL := Lib.hid e1
  have HL2 := Lib.hid hl
  have hlI : (l : Int) ≤ 1099511627776 := by omega
  have HTiny := Lib.hid ht
  have HSm := Lib.hid h1.small
  clear e1 hl ht
  go_enter Tryz.func114, Tryz.ntmps114
  go_wp2_with fail
  go_loopw [3, 4] (fun t3 t4 wr => ∃ k j : Nat, j = 2 * k ∧ j ≤ l + 1 ∧ t4 = .int .i64 (j : Int) ∧ Own wr w.heap.size t3 (pr (d.take j)) ∧ Below w.heap.size w wr) (fun _ t4 _ => l + 1 - (intOf t4).toNat)
  case atStart => exact ⟨0, 0, rfl, by omega, rfl, by rw [List.take_zero]; exact Own.nil _ _, Below.refl _ _⟩
  case round =>
    obtain ⟨k, j, hjk, hj, rfl, hown, hbel⟩ := hrel
    obtain ⟨A3, l3, c3, rfl⟩ := hown.slice
    have HJ := Lib.hid hjk
    clear hjk
    by_cases hlt : j < l
    · have HK := Lib.hid (show j < d.length by rw [← HL.out]; exact hlt)
      obtain ⟨ad, rfl, hbad, hc⟩ := (h1.below hbel).at_ HK.out
      obtain ⟨x, hx⟩ : ∃ x, d.getD j 0 = x := ⟨_, rfl⟩
      have hx32 : x < 4294967296 := by rw [← W32_eq, ← hx]; exact HTiny.out.getD j
      rw [hx] at hc
      have HX := Lib.hid hx
      have hjI : (j : Int) < (l : Int) := by omega
      have hxW := Lib.hid (show x < W64 by rw [W64_eq]; omega)
      have HLE := Lib.hid (show (pr (d.take j)).length + 1 ≤ 17592186044416 by
        have h2 := pr_length _ (d.take j) (Nat.le_refl _)
        rw [List.length_take] at h2
        have := HL2.out
        omega)
      clear hx
      by_cases hlt2 : j + 1 < l
      · have HK2 := Lib.hid (show j + 1 < d.length by rw [← HL.out]; exact hlt2)
        obtain ⟨ad', e', _, hc2⟩ := (h1.below hbel).at_ HK2.out
        injection e' with e'
        subst e'
        obtain ⟨y, hy⟩ : ∃ y, d.getD (j + 1) 0 = y := ⟨_, rfl⟩
        have hy32 : y < 4294967296 := by rw [← W32_eq, ← hy]; exact HTiny.out.getD (j + 1)
        rw [hy] at hc2
        have hj1I : (j : Int) + 1 < (l : Int) := by omega
        obtain ⟨q, hq⟩ : ∃ q, j + 1 = q := ⟨_, rfl⟩
        have hqI : (j : Int) + 1 = (q : Int) := by omega
        have hqlt : q < l := by omega
        rw [hq] at hc2
        obtain ⟨p, hp⟩ : ∃ p, 4294967296 * y = p := ⟨_, rfl⟩
        obtain ⟨z, hz⟩ : ∃ z, x + p = z := ⟨_, rfl⟩
        have HY := Lib.hid hy
        have HZ := Lib.hid (show z < W64 by rw [W64_eq]; omega)
        have HS := Lib.hid (show pr (d.take (j + 2)) = pr (d.take j) ++ [z] by rw [HJ.out, pr_take_two d k (by rw [← HJ.out]; exact HK2.out), ← HJ.out, HX.out, HY.out, W32_eq, hp, hz])
        have hpI : (4294967296 : Int) * (y : Int) = (p : Int) := by omega
        have hzI : (x : Int) + (p : Int) = (z : Int) := by omega
        have hzB : (z : Int) < 18446744073709551616 := by omega
        have hpB : (p : Int) < 18446744073709551616 := by omega
        clear hq hy hp hz
        go_wp2_with (at_builtin; refine append_one (w0 := w) w.heap.size rfl _ _ rfl _ (pr (d.take j)) z (by rfl) (by rfl) HZ.out hown hbel hbel.size HLE.out ?_)
        intro v1 w1 hown1 hbel1 _
        rw [← HS.out] at hown1
        clear hzB hpB
        go_wp2_with fail
        exact ⟨⟨k + 1, j + 2, by have := HJ.out; omega, by omega, by go_num, hown1, hbel1⟩, by simp [intOf]; omega⟩
      · have hj1I : (l : Int) ≤ (j : Int) + 1 := by omega
        have HS := Lib.hid (show pr (d.take (j + 2)) = pr (d.take j) ++ [x] by rw [List.take_of_length_le (by rw [← HL.out]; omega), pr_take_one d k (by rw [← HL.out, ← HJ.out]; omega), ← HJ.out, HX.out])
        go_wp2_with (at_builtin; refine append_one (w0 := w) w.heap.size rfl _ _ rfl _ (pr (d.take j)) x (by rfl) (by rfl) hxW.out hown hbel hbel.size HLE.out ?_)
        intro v1 w1 hown1 hbel1 _
        rw [← HS.out] at hown1
        go_wp2_with fail
        exact ⟨⟨k + 1, j + 2, by have := HJ.out; omega, by omega, by go_num, hown1, hbel1⟩, by simp [intOf]; omega⟩
    · have hltI : (l : Int) ≤ (j : Int) := by omega
      rw [List.take_of_length_le (by rw [← HL.out]; omega)] at hown
      obtain ⟨A4, c4, e4, hc4, hlim4, _⟩ := hown.form
      injection e4 with e41 e42 e43
      subst e41 e42 e43
      have HLL := Lib.hid (show (pr d).length ≤ 1099511627776 by
        have h2 := pr_length _ d (Nat.le_refl _)
        have := HL2.out
        have := HL.out
        omega)
      have HC := Lib.hid hc4
      clear hown hc4 hlt
      go_wp2_with fail
      refine (ref_trim A3 (pr d).length c3 (pr d) wr hlim4 rfl HC.out HLL.out).mono ?_
      rintro e w2 ⟨v, rfl, ho, hb⟩
      go_wp2_with fail
      go_ret
      rw [val_pr _ d (Nat.le_refl _)] at ho
      exact ⟨v, rfl, ho.mono hbel.size, hbel.trans (hb.mono hbel.size)⟩
set_option maxRecDepth 100000 in
theorem ref_bits (A : Option Addr) (l c : Nat) (xs : List Nat) (w : World) (h1 : Lim w w.heap.size A xs) (e1 : l = xs.length) (hc : l ≤ c) (hl : l ≤ 1099511627776) :
    Calls Tryz.prog 78 #[.slice A l c] w fun e w' => e = .returned (.int .i64 (nbits (val xs) : Nat)) ∧ Below w.heap.size w w' := by
  have HT := Lib.hid (ref_trim A l c xs w h1 e1 hc hl)
  have HLC := Lib.hid (show (limbs (val xs)).length ≤ 1099511627776 from Nat.le_trans (limbs_val_le h1.small) (by omega))
  clear e1 hc hl
  go_enter Tryz.func78, Tryz.ntmps78
  go_wp2_with fail
  refine HT.out.mono ?_
  rintro e w1 ⟨v, rfl, ho, hb⟩
  obtain ⟨A1, c1, rfl, hc1, hlim1, _⟩ := ho.form
  by_cases h0 : val xs = 0
  · have HE := Lib.hid (show nbits (val xs) = 0 by rw [h0]; rfl)
    rw [show limbs (val xs) = [] by rw [h0, limbs_zero]]
    clear h0
    go_wp2_with fail
    go_ret
    rw [HE.out]
    exact ⟨rfl, hb⟩
  · obtain ⟨ys, t, hys, ht0⟩ := snoc_of_norm (norm_limbs (val xs)) (fun e => h0 (limbs_eq_nil.1 e))
    have hsm := small_limbs (val xs)
    rw [hys] at hsm
    have htW : t < W64 := hsm t (by simp)
    have hsy : Small ys := fun y hy => hsm y (by simp [hy])
    have HN := Lib.hid (show nbits (val xs) = 64 * ys.length + bitLen t by rw [← nbits_top hsy ht0 htW, ← hys, val_limbs])
    have hct := hlim1.at_ (k := ys.length) (by rw [hys]; simp)
    obtain ⟨ad, rfl, _, hcell⟩ := hct
    rw [hys] at hcell ⊢
    have HLC2 := HLC.out
    rw [hys] at HLC2
    simp only [List.length_append, List.length_singleton] at HLC2 ⊢
    rw [show (ys ++ [t]).getD ys.length 0 = t by simp] at hcell
    obtain ⟨m, hm⟩ : ∃ m, ys.length = m := ⟨_, rfl⟩
    rw [hm] at HN hcell HLC2 ⊢
    have hmI : ((m + 1 : Nat) : Int) - 1 = (m : Int) := by omega
    obtain ⟨L, hL⟩ : ∃ L, m + 1 = L := ⟨_, rfl⟩
    rw [hL] at hmI HLC2 ⊢
    have hLI : (L : Int) ≤ 1099511627776 := by omega
    have hL0 : ((L : Int) == 0) = false := beq_eq_false_iff_ne.2 (by omega)
    obtain ⟨q, hq⟩ : ∃ q, 64 * m = q := ⟨_, rfl⟩
    have hqI : (64 : Int) * (m : Int) = (q : Int) := by omega
    have hmL : (m : Int) < (L : Int) := by omega
    have hmLN : m < L := by omega
    have HQ := Lib.hid (show q ≤ 70368744177664 by omega)
    have HTot := Lib.hid (show nbits (val xs) = q + bitLen t by rw [HN.out, hq])
    have HTW := Lib.hid htW
    clear h0 hys ht0 hsm hsy hm hL hq HLC2 htW hlim1 HN hc1 ho
    go_wp2_with fail
    go_loopw [4, 5] (fun t4 t5 wr => ∃ n x : Nat, t4 = .int .i64 (n : Int) ∧ t5 = .int .u64 (x : Int) ∧ n + bitLen x = q + bitLen t ∧ x < W64 ∧ w1 = wr) (fun _ t5 _ => (intOf t5).toNat)
    case atStart => exact ⟨q, t, rfl, rfl, rfl, HTW.out, rfl⟩
    case round =>
      obtain ⟨n, x, rfl, rfl, hnx, hxW, rfl⟩ := hrel
      have HX := Lib.hid hxW
      have HNX := Lib.hid hnx
      have HNB := Lib.hid (show n ≤ 70368744177664 + 64 by
        have h1 := bitLen_le64 HTW.out
        have := HQ.out
        omega)
      clear hnx hxW
      by_cases hx0 : x = 0
      · subst hx0
        have HE := Lib.hid (show nbits (val xs) = n by
          rw [HTot.out, ← HNX.out, show bitLen 0 = 0 by decide]; rfl)
        go_wp2_with fail
        go_ret
        rw [HE.out]
        exact ⟨rfl, hb⟩
      · have hx1 : (0 : Int) < (x : Int) := by omega
        obtain ⟨y, hy⟩ : ∃ y, x / 2 = y := ⟨_, rfl⟩
        have hyI : (x : Int) / 2 = (y : Int) := by omega
        have HS := Lib.hid (show n + 1 + bitLen y = q + bitLen t by
          have h2 := Lib.bitLen_half x hx0 (by rw [← W64_two]; exact HX.out)
          have h3 : bitLen x = 1 + bitLen (x / 2) := h2
          rw [hy] at h3
          have := HNX.out
          omega)
        have HY := Lib.hid (show y < W64 ∧ y < x from ⟨by have := HX.out; omega, by omega⟩)
        clear hy hx0
        have hnI : (n : Int) ≤ 70368744177728 := by have := HNB.out; omega
        have hwr : IntKind.u64.wrap (y : Int) = (y : Int) := by
          have h3 := HY.out.1
          rw [W64_eq] at h3
          rw [IntKind.wrap_u64]; omega
        go_wp2_with fail
        have hyx := HY.out.2
        exact ⟨⟨n + 1, y, by go_num, rfl, HS.out, HY.out.1, by trivial⟩, by simp [intOf]; omega⟩
set_option maxHeartbeats 400000 in
set_option maxRecDepth 100000 in
theorem ref_cmp (A1 A2 : Option Addr) (l1 l2 c1 c2 : Nat) (xs ys : List Nat) (w : World) (h1 : Lim w w.heap.size A1 xs) (h2 : Lim w w.heap.size A2 ys) (e1 : l1 = xs.length) (e2 : l2 = ys.length) (hc1 : l1 ≤ c1) (hc2 : l2 ≤ c2) (hl1 : l1 ≤ 1099511627776) (hl2 : l2 ≤ 1099511627776) :
    Calls Tryz.prog 68 #[.slice A1 l1 c1, .slice A2 l2 c2] w fun e w' => e = .returned (.int .i64 (cmpN (val xs) (val ys))) ∧ Below w.heap.size w w' := by
  have HT := Lib.hid (ref_trim A1 l1 c1 xs w h1 e1 hc1 hl1)
  have HT2 := Lib.hid (fun (W : World) (hb : Below w.heap.size w W) => ref_trim A2 l2 c2 ys W (h2.below hb) e2 hc2 hl2)
  obtain ⟨m, hm⟩ : ∃ m, val xs = m := ⟨_, rfl⟩
  obtain ⟨n, hn⟩ : ∃ n, val ys = n := ⟨_, rfl⟩
  have HLM := Lib.hid (show (limbs m).length ≤ 1099511627776 by rw [← hm]; exact Nat.le_trans (limbs_val_le h1.small) (by omega))
  have HLN := Lib.hid (show (limbs n).length ≤ 1099511627776 by rw [← hn]; exact Nat.le_trans (limbs_val_le h2.small) (by omega))
  rw [hm] at HT ⊢
  rw [hn] at HT2 ⊢
  clear e1 e2 hc1 hc2 hl1 hl2 hm hn
  go_enter Tryz.func68, Tryz.ntmps68
  go_wp2_with fail
  refine HT.out.mono ?_
  rintro e w1 ⟨v, rfl, ho, hb⟩
  go_wp2_with fail
  refine (HT2.out w1 hb).mono ?_
  rintro e w2 ⟨v2, rfl, ho2, hb2⟩
  have hb12 : Below w.heap.size w w2 := hb.trans (hb2.mono hb.size)
  obtain ⟨A3, c3, rfl, _, hlim3, _⟩ := (ho.below hb2).form
  obtain ⟨A4, c4, rfl, _, hlim4, _⟩ := ho2.form
  have hsx := small_limbs m
  have hsy := small_limbs n
  have hvx := val_limbs m
  have hvy := val_limbs n
  obtain ⟨xl, hxl⟩ : ∃ xl, limbs m = xl := ⟨_, rfl⟩
  obtain ⟨yl, hyl⟩ : ∃ yl, limbs n = yl := ⟨_, rfl⟩
  have HC := Lib.hid (show (xl.length < yl.length → cmpN m n = -1) ∧ (yl.length < xl.length → cmpN m n = 1) from
    ⟨fun h => cmpN_lt (lc_lt (by unfold lc; rw [hxl, hyl]; exact h)), fun h => cmpN_gt (lc_lt (by unfold lc; rw [hxl, hyl]; exact h))⟩)
  have hLM := HLM.out
  have hLN := HLN.out
  rw [hxl] at hlim3 hsx hvx hLM ⊢
  rw [hyl] at hlim4 hsy hvy hLN ⊢
  have HSX := Lib.hid hsx
  have HSY := Lib.hid hsy
  have HVX := Lib.hid hvx
  have HVY := Lib.hid hvy
  have hlxI : (xl.length : Int) ≤ 1099511627776 := by omega
  clear hsx hsy hvx hvy hxl hyl hLM hLN ho ho2 HT HT2 h1 h2
  rcases Nat.lt_trichotomy xl.length yl.length with hlt | heq | hgt
  · have HE := Lib.hid (HC.out.1 hlt)
    have t1 : ((xl.length : Int) != (yl.length : Int)) = true := by rw [bne_iff_ne]; omega
    have t2 : (xl.length : Int) < (yl.length : Int) := by omega
    go_wp2_with fail
    go_ret
    rw [HE.out]
    exact ⟨rfl, hb12⟩
  · have t1 : ((xl.length : Int) != (yl.length : Int)) = false := by rw [bne_eq_false_iff_eq]; omega
    have HQ := Lib.hid heq
    go_wp2_with fail
    go_loopw [7] (fun t7 wr => ∃ k : Nat, k ≤ xl.length ∧ t7 = .int .i64 ((k : Int) - 1) ∧ xl.drop k = yl.drop k ∧ Below w.heap.size w wr ∧ ∃ q, wr = w2.drewN q) (fun t7 _ => (intOf t7 + 1).toNat)
    case atStart => exact ⟨xl.length, Nat.le_refl _, by rw [HQ.out], by simp [HQ.out], hb12, 0, rfl⟩
    case round =>
      obtain ⟨k, hk, rfl, hd, hbr, q, rfl⟩ := hrel
      have HD := Lib.hid hd
      clear hd heq
      rcases k with _ | k
      · have HE := Lib.hid (show cmpN m n = 0 by
          have e : xl = yl := by simpa using HD.out
          exact cmpN_eq (by rw [← HVX.out, ← HVY.out, e]))
        go_wp2_with fail
        go_ret
        rw [HE.out]
        exact ⟨rfl, hbr⟩
      · have HKX := Lib.hid (show k < xl.length by omega)
        have HKY := Lib.hid (show k < yl.length by rw [← HQ.out]; omega)
        obtain ⟨ad, rfl, _, hcell⟩ := hlim3.at_ HKX.out
        obtain ⟨ad2, rfl, _, hcell2⟩ := hlim4.at_ HKY.out
        obtain ⟨x, hx⟩ : ∃ x, xl.getD k 0 = x := ⟨_, rfl⟩
        obtain ⟨y, hy⟩ : ∃ y, yl.getD k 0 = y := ⟨_, rfl⟩
        rw [hx] at hcell
        rw [hy] at hcell2
        have HX := Lib.hid hx
        have HY := Lib.hid hy
        have e1 : ((k + 1 : Nat) : Int) - 1 = (k : Int) := by omega
        rw [e1]
        have b1 : (k : Int) < (xl.length : Int) := by have := HKX.out; omega
        have b2 : (k : Int) < (yl.length : Int) := by have := HKY.out; omega
        clear hx hy e1
        rcases Nat.lt_trichotomy x y with hxy | hxy | hxy
        · have t3 : (x : Int) < (y : Int) := by omega
          have HE := Lib.hid (cmpN_lt (show m < n by rw [← HVX.out, ← HVY.out]; exact val_lt_top HSX.out HSY.out HQ.out HKX.out HD.out (by rw [HX.out, HY.out]; exact hxy)))
          go_wp2_with fail
          go_quiet (fail)
          go_wp2_with fail
          go_ret
          rw [HE.out]
          exact ⟨rfl, below_drewN hbr _⟩
        · subst hxy
          have HS := Lib.hid (drop_same HQ.out HKX.out HD.out (by rw [HX.out, HY.out]))
          have t3 : ¬ (x : Int) < (x : Int) := by omega
          go_wp2_with fail
          go_quiet (fail)
          go_wp2_with fail
          go_quiet (fail)
          go_wp2_with fail
          exact ⟨⟨k, by omega, rfl, HS.out, below_drewN hb12 _, _, rfl⟩, by simp [intOf]⟩
        · have t3 : ¬ (x : Int) < (y : Int) := by omega
          have t4 : (y : Int) < (x : Int) := by omega
          have HE := Lib.hid (cmpN_gt (show n < m by rw [← HVX.out, ← HVY.out]; exact val_lt_top HSY.out HSX.out HQ.out.symm HKY.out HD.out.symm (by rw [HX.out, HY.out]; exact hxy)))
          go_wp2_with fail
          go_quiet (fail)
          go_wp2_with fail
          go_quiet (fail)
          go_wp2_with fail
          go_ret
          rw [HE.out]
          exact ⟨rfl, below_drewN (below_drewN hbr _) _⟩
  · have HE := Lib.hid (HC.out.2 hgt)
    have t1 : ((xl.length : Int) != (yl.length : Int)) = true := by rw [bne_iff_ne]; omega
    have t2 : ¬ (xl.length : Int) < (yl.length : Int) := by omega
    go_wp2_with fail
    go_ret
    rw [HE.out]
    exact ⟨rfl, hb12⟩
end Go.Proofs.YtjbagikfogejnaaGreatDoor
