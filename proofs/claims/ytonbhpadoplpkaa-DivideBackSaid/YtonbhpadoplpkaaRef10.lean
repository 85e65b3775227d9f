import Derived.Test.YtonbhpadoplpkaaRef9
/- The package rosetteref00: long. -/
namespace Go.Proofs.Ytonbhpadoplpkaa
open Go.RowKit Go.Deep
theorem val32_nil : val32 [] = 0 := rfl
theorem alg32 (W : Nat) {M t win rest P D V q r : Nat} (hrest : rest = 0) (hM : M = t + P * (win + rest) + D * (P * W) * V) (hw : win = q * V + r) : M = t + P * (r + 0) + (q + W * D) * P * V := by
  subst hrest
  rw [hM, hw]; grind
theorem over_win32 {us : List Nat} (hs : Tiny us) {p lb V : Nat} (hp : p + (lb + 1) ≤ us.length) (hVl : V < W32 ^ lb) (hlt : val32 (us.drop (p + 1)) < V) :
    val32 ((us.drop p).take (lb + 1)) < V * W32 ∧ val32 (us.drop (p + (lb + 1))) = 0 := by
  have h1 := val32_drop_step us p (by omega)
  have h2 : us.getD p 0 < W32 := hs.getD p
  have h3 := val32_split (us.drop p) (lb + 1) (by rw [List.length_drop]; omega)
  rw [List.drop_drop] at h3
  have h4 := val32_split (us.drop (p + 1)) lb (by rw [List.length_drop]; omega)
  rw [List.drop_drop] at h4
  have h5 : W32 * val32 (us.drop (p + 1)) + W32 ≤ W32 * V := by
    have := Nat.mul_le_mul_left W32 (show val32 (us.drop (p + 1)) + 1 ≤ V from hlt)
    rwa [Nat.mul_add, Nat.mul_one] at this
  rw [Nat.mul_comm V]
  refine ⟨by omega, ?_⟩
  rw [show p + 1 + lb = p + (lb + 1) by omega] at h4
  rcases Nat.eq_zero_or_pos (val32 (us.drop (p + (lb + 1)))) with h6 | h6
  · exact h6
  · have := Nat.mul_le_mul_left (W32 ^ lb) h6
    omega
theorem over_step32 {us us' os : List Nat} (hs : Tiny us) {p lb V M q : Nat} (hlen : us'.length = us.length) (hp : p + (lb + 1) ≤ us.length) (hV0 : 0 < V) (hVl : V < W32 ^ lb) (hlt : val32 (us.drop (p + 1)) < V)
    (hM : M = val32 us + val32 (os.drop (p + 1)) * W32 ^ (p + 1) * V) (hq : q = val32 ((us.drop p).take (lb + 1)) / V) (htk : us'.take p = us.take p) (hdr : us'.drop (p + (lb + 1)) = us.drop (p + (lb + 1)))
    (hr : val32 ((us'.drop p).take (lb + 1)) = val32 ((us.drop p).take (lb + 1)) % V) (hpo : p < os.length) :
    val32 (us'.drop p) < V ∧ M = val32 us' + val32 ((os.set p q).drop p) * W32 ^ p * V := by
  obtain ⟨_, h0⟩ := over_win32 hs hp hVl hlt
  have e1 := val32_split us p (by omega)
  have e2 := val32_split (us.drop p) (lb + 1) (by rw [List.length_drop]; omega)
  rw [List.drop_drop, h0] at e2
  have e3 := val32_split us' p (by omega)
  have e4 := val32_split (us'.drop p) (lb + 1) (by rw [List.length_drop]; omega)
  rw [List.drop_drop, hdr, h0, hr] at e4
  have h5 := Nat.div_add_mod (val32 ((us.drop p).take (lb + 1))) V
  rw [← hq] at h5
  have h6 := Nat.mod_lt (val32 ((us.drop p).take (lb + 1))) hV0
  rw [Nat.mul_zero, Nat.add_zero] at e4
  refine ⟨by rw [e4]; exact h6, ?_⟩
  rw [e3, e4, htk, val32_drop_set os p q hpo]
  rw [e1, e2, Nat.pow_succ] at hM
  have h7 := alg32 W32 (Nat.mul_zero (W32 ^ (lb + 1))) hM (q := q) (r := val32 ((us.drop p).take (lb + 1)) % V) (by rw [Nat.mul_comm]; exact h5.symm)
  rwa [Nat.add_zero] at h7
theorem guess_ge32 {win vs : List Nat} (hw : Tiny win) {n : Nat} (hv : vs.length = n + 1) (hwl : win.length = n + 2) :
    (val32 win / val32 vs) * vs.getD n 0 ≤ win.getD n 0 + W32 * win.getD (n + 1) 0 := by
  have h1 := Nat.div_mul_le_self (val32 win) (val32 vs)
  generalize val32 win / val32 vs = Q at *
  have e1 : val32 win = val32 (win.take n) + W32 ^ n * (win.getD n 0 + W32 * win.getD (n + 1) 0) := by
    have h3 := val32_split win n (by omega)
    have h4 := val32_drop_step win n (by omega)
    have h5 := val32_drop_step win (n + 1) (by omega)
    rw [List.drop_of_length_le (i := n + 1 + 1) (by omega), val32_nil, Nat.mul_zero, Nat.add_zero] at h5
    rw [h3, h4, h5, Nat.add_zero]
  have e2 : val32 vs = val32 (vs.take n) + W32 ^ n * vs.getD n 0 := by
    have h3 := val32_take_step vs n
    rwa [List.take_of_length_le (by omega)] at h3
  have h6 := val32_lt (hw.take n)
  rw [List.length_take, Nat.min_eq_left (by omega)] at h6
  rw [e1, e2] at h1
  generalize win.getD n 0 + W32 * win.getD (n + 1) 0 = t at *
  generalize vs.getD n 0 = v at *
  generalize val32 (vs.take n) = a at *
  generalize val32 (win.take n) = b at *
  generalize W32 ^ n = P at *
  rcases Nat.lt_or_ge t (Q * v) with h | h
  · exfalso
    have h7 := Nat.mul_le_mul_left P (show t + 1 ≤ Q * v from h)
    have h8 : Q * (a + P * v) = Q * a + P * (Q * v) := by grind
    rw [Nat.mul_add, Nat.mul_one] at h7
    have : 0 ≤ Q * a := Nat.zero_le _
    omega
  · exact h

theorem below_of_grown {w a b : World} {g : Nat} (h : Below w.heap.size w a) (k : a.grownBy b (some g)) (hg : w.heap.size ≤ g) : Below w.heap.size w b :=
  ⟨k.os.trans h.os, k.tape.trans h.tape, k.output.trans h.output, Nat.le_trans h.size k.size, fun i hi => by
    rw [k.block i (Nat.lt_of_lt_of_le hi h.size) (fun e => by have := Option.some.inj e; omega)]
    exact h.block i hi⟩
theorem Row.grown {a b : World} {g r : Nat} {os : List Nat} (h : Row a r os) (k : a.grownBy b (some g)) (hr : r ≠ g) : Row b r os :=
  h.of_block (k.block r h.lt (fun e => hr (Option.some.inj e)))
/-- The scale's bounds. -/
theorem scale_facts {ys : List Nat} {n t S : Nat} (ty : Tiny ys) (hl : ys.length = n + 1) (ht : ys.getD n 0 = t) (ht0 : t ≠ 0) (hS : 4294967296 / (t + 1) = S) : 1 ≤ S ∧ S < W32 ∧ val32 ys * S < W32 ^ (n + 1) ∧ W32 ^ n * S ≤ val32 ys * S := by
  have htW : t < W32 := by rw [← ht]; exact ty.getD n
  rw [W32_eq] at htW
  have h1 : 1 ≤ S := by rw [← hS]; exact (Nat.le_div_iff_mul_le (by omega)).2 (by omega)
  have h2 : S * (t + 1) ≤ 4294967296 := by rw [← hS]; exact Nat.div_mul_le_self _ _
  have h3 : S < W32 := by
    rw [W32_eq]
    have h4 := Nat.mul_le_mul_left S (show 2 ≤ t + 1 by omega)
    omega
  have e : val32 ys = val32 (ys.take n) + W32 ^ n * t := by
    have h5 := val32_take_step ys n
    rwa [List.take_of_length_le (by omega), ht] at h5
  have h6 := val32_lt (ty.take n)
  rw [List.length_take, Nat.min_eq_left (by omega)] at h6
  have hSW : S * (t + 1) ≤ W32 := by rw [W32_eq]; exact h2
  refine ⟨h1, h3, ?_, ?_⟩
  · have h7 : val32 ys < W32 ^ n * (t + 1) := by rw [e, Nat.mul_add, Nat.mul_one]; omega
    have h8 := Nat.mul_lt_mul_of_pos_right h7 (show 0 < S by omega)
    rw [Nat.mul_assoc, Nat.mul_comm (t + 1) S] at h8
    rw [Nat.pow_succ]
    exact Nat.lt_of_lt_of_le h8 (Nat.mul_le_mul_left _ hSW)
  · refine Nat.mul_le_mul_right S ?_
    rw [e]
    have := Nat.le_mul_of_pos_right (W32 ^ n) (show 0 < t by omega)
    omega
/-- The first window lies below the divisor. -/
theorem first_window {us : List Nat} {k n S V X : Nat} (hX : val32 us = X * S) (hx : X < W32 ^ (k + n)) (hk : k ≤ us.length) (hV : W32 ^ n * S ≤ V) (hS : 1 ≤ S) : val32 (us.drop k) < V := by
  have h1 := val32_split us k hk
  have h2 := Nat.mul_lt_mul_of_pos_right hx (show 0 < S by omega)
  rw [Nat.pow_add, Nat.mul_assoc] at h2
  have h3 := Nat.mul_le_mul_left (W32 ^ k) hV
  have h4 : W32 ^ k * val32 (us.drop k) < W32 ^ k * V := by omega
  exact Nat.lt_of_mul_lt_mul_left h4
end Go.Proofs.Ytonbhpadoplpkaa
