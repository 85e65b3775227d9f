import Derived.Test.YtonbhpadoplpkaaNum
/- Long division, plain: a guess of a quotient's limb, from three limbs and two. -/
namespace Go.Proofs.Ytonbhpadoplpkaa
/-- What a guess is: not too small, and not much too great. -/
structure Guess (hi lo next top below g : Nat) : Prop where
  lt : g < W64
  ge : ∀ t, t < W64 → t * (top * W64 + below) ≤ (hi * W64 + lo) * W64 + next → t ≤ g
  le : g * top ≤ hi * W64 + lo ∨ top ≤ hi
/-- The state of the loop that makes it less. -/
structure Guessing (hi lo next top below q r : Nat) : Prop where
  lt : q < W64
  sum : q * top + r = hi * W64 + lo
  ge : ∀ t, t < W64 → t * (top * W64 + below) ≤ (hi * W64 + lo) * W64 + next → t ≤ q
theorem Guess.most {hi lo next top below : Nat} (h : top ≤ hi) : Guess hi lo next top below (W64 - 1) :=
  ⟨by have := W64_pos; omega, fun t ht _ => by omega, .inr h⟩
theorem alg_guess (W t top below r next q : Nat) (h : q * below = r * W + next + 1 + t) : q * (top * W + below) = (q * top + r) * W + next + 1 + t := by
  rw [Nat.mul_add, h, Nat.add_mul, ← Nat.mul_assoc]; omega
theorem Guessing.start {hi lo next top below : Nat} (ht : 0 < top) (hh : hi < top) (hl : lo < W64) (hn : next < W64) : Guessing hi lo next top below ((hi * W64 + lo) / top) ((hi * W64 + lo) % top) := by
  refine ⟨?_, ?_, fun t _ h => ?_⟩
  · rw [Nat.div_lt_iff_lt_mul ht]
    have := Nat.mul_le_mul_right W64 (show hi + 1 ≤ top from hh)
    rw [Nat.add_mul, Nat.one_mul] at this
    rw [Nat.mul_comm W64 top]; omega
  · rw [Nat.mul_comm]; exact Nat.div_add_mod _ _
  · refine (Nat.le_div_iff_mul_le ht).2 ?_
    rcases Nat.lt_or_ge (hi * W64 + lo) (t * top) with h1 | h1
    · exfalso
      have h2 := Nat.mul_le_mul_right W64 (show hi * W64 + lo + 1 ≤ t * top from h1)
      rw [Nat.add_mul _ 1, Nat.one_mul] at h2
      rw [Nat.mul_add, ← Nat.mul_assoc] at h
      omega
    · exact h1
theorem Guessing.stop {hi lo next top below q r : Nat} (h : Guessing hi lo next top below q r) : Guess hi lo next top below q :=
  ⟨h.lt, h.ge, .inl (by have := h.sum; omega)⟩
theorem Guessing.less {hi lo next top below q r : Nat} (h : Guessing hi lo next top below q r) (hb : r * W64 + next < q * below) : 1 ≤ q ∧ Guessing hi lo next top below (q - 1) (r + top) := by
  have hq : 1 ≤ q := by
    rcases Nat.eq_zero_or_pos q with h0 | h0
    · rw [h0, Nat.zero_mul] at hb; omega
    · exact h0
  obtain ⟨p, rfl⟩ : ∃ p, q = p + 1 := ⟨q - 1, by omega⟩
  have hs := h.sum
  have hl := h.lt
  refine ⟨hq, ⟨by omega, by rw [Nat.add_sub_cancel]; rw [Nat.add_mul, Nat.one_mul] at hs; omega, fun t h1 h2 => ?_⟩⟩
  have h3 := h.ge t h1 h2
  rcases Nat.lt_or_eq_of_le h3 with h4 | h4
  · omega
  · exfalso
    subst h4
    obtain ⟨d, hd⟩ : ∃ d, (p + 1) * below = r * W64 + next + 1 + d := ⟨(p + 1) * below - (r * W64 + next + 1), by omega⟩
    have h5 := alg_guess W64 d top below r next (p + 1) hd
    rw [hs] at h5
    omega
/-- The guess of a window: not below the quotient, and too much by less than one limb more. -/
theorem guess_window {win vs : List Nat} (hw : Small win) (hv : Small vs) {n : Nat} (hvl : vs.length = n + 2) (hwl : win.length = n + 3) {g : Nat}
    (h : Guess (win.getD (n + 2) 0) (win.getD (n + 1) 0) (win.getD n 0) (vs.getD (n + 1) 0) (vs.getD n 0) g) (hQ : val win < val vs * W64) :
    val win / val vs ≤ g ∧ g * val vs < val win + W64 ^ (n + 2) := by
  have e1 : val win = val (win.take n) + W64 ^ n * ((win.getD (n + 2) 0 * W64 + win.getD (n + 1) 0) * W64 + win.getD n 0) := by
    have h3 := val_split win n (by omega)
    have h4 := val_drop_step win n (by omega)
    have h5 := val_drop_step win (n + 1) (by omega)
    have h6 := val_drop_step win (n + 1 + 1) (by omega)
    rw [List.drop_of_length_le (i := n + 1 + 1 + 1) (by omega), val_nil, Nat.mul_zero, Nat.add_zero] at h6
    rw [h3, h4, h5, h6]
    congr 2
    show win.getD n 0 + W64 * (win.getD (n + 1) 0 + W64 * win.getD (n + 2) 0) = _
    generalize win.getD n 0 = a
    generalize win.getD (n + 1) 0 = b
    generalize win.getD (n + 2) 0 = c
    grind
  have e2 : val vs = val (vs.take n) + W64 ^ n * (vs.getD (n + 1) 0 * W64 + vs.getD n 0) := by
    have h3 := val_split vs n (by omega)
    have h4 := val_drop_step vs n (by omega)
    have h5 := val_drop_step vs (n + 1) (by omega)
    rw [List.drop_of_length_le (i := n + 1 + 1) (by omega), val_nil, Nat.mul_zero, Nat.add_zero] at h5
    rw [h3, h4, h5]
    congr 2
    generalize vs.getD n 0 = a
    generalize vs.getD (n + 1) 0 = b
    grind
  have h6 := val_lt (hw.take n)
  rw [List.length_take, Nat.min_eq_left (by omega)] at h6
  have h7 := val_lt (hv.take n)
  rw [List.length_take, Nat.min_eq_left (by omega)] at h7
  have h8 := hv.getD n
  have h9 := hw.getD n
  have hg := h.lt
  constructor
  · have hQ2 : val win / val vs < W64 := Nat.div_lt_of_lt_mul hQ
    refine h.ge _ hQ2 ?_
    have h1 := Nat.div_mul_le_self (val win) (val vs)
    generalize val win / val vs = Q at *
    rw [e1, e2] at h1
    generalize (win.getD (n + 2) 0 * W64 + win.getD (n + 1) 0) * W64 + win.getD n 0 = t at *
    generalize vs.getD (n + 1) 0 * W64 + vs.getD n 0 = v at *
    generalize val (vs.take n) = a at *
    generalize val (win.take n) = b at *
    generalize W64 ^ n = P at *
    rcases Nat.lt_or_ge t (Q * v) with h | h
    · exfalso
      have h7 := Nat.mul_le_mul_left P (show t + 1 ≤ Q * v from h)
      have h8 : Q * (a + P * v) = Q * a + P * (Q * v) := by grind
      rw [Nat.mul_add, Nat.mul_one] at h7
      have : 0 ≤ Q * a := Nat.zero_le _
      omega
    · exact h
  · rw [e1, e2, Nat.pow_add]
    have hle := h.le
    have hP : 0 < W64 ^ n := Nat.pow_pos W64_pos
    generalize win.getD (n + 2) 0 = hi at *
    generalize win.getD (n + 1) 0 = lo at *
    generalize win.getD n 0 = nx at *
    generalize vs.getD (n + 1) 0 = top at *
    generalize vs.getD n 0 = bl at *
    generalize val (vs.take n) = a at *
    generalize val (win.take n) = b at *
    generalize W64 ^ n = P at *
    -- g (a + P (top W + bl)) < g P (top W + W)
    have k1 : a + P * (top * W64 + bl) < P * ((top + 1) * W64) := by
      have k2 : P * (bl + 1) ≤ P * W64 := Nat.mul_le_mul_left P h8
      rw [Nat.mul_add, Nat.mul_one] at k2
      rw [Nat.mul_add, Nat.add_mul, Nat.one_mul, Nat.mul_add]
      omega
    have k3 : g * (a + P * (top * W64 + bl)) ≤ g * (P * ((top + 1) * W64)) := Nat.mul_le_mul_left g (Nat.le_of_lt k1)
    have k4 : g * (P * ((top + 1) * W64)) = P * ((g * top + g) * W64) := by grind
    rw [k4] at k3
    have k5 : g * top + g < hi * W64 + lo + W64 := by
      rcases hle with h | h
      · omega
      · have k6 := Nat.mul_le_mul (show g + 1 ≤ W64 from hg) (show top + 1 ≤ hi + 1 by omega)
        rw [Nat.mul_add, Nat.mul_one, Nat.add_mul, Nat.one_mul, Nat.mul_add, Nat.mul_one, Nat.mul_comm W64 hi] at k6
        omega
    have k7 : P * ((g * top + g) * W64) + P * W64 ≤ P * ((hi * W64 + lo + W64) * W64) := by
      rw [← Nat.mul_add]
      refine Nat.mul_le_mul_left P ?_
      have := Nat.mul_le_mul_right W64 (show g * top + g + 1 ≤ hi * W64 + lo + W64 from k5)
      rwa [Nat.add_mul _ 1, Nat.one_mul] at this
    have k8 : P * ((hi * W64 + lo + W64) * W64) = P * ((hi * W64 + lo) * W64) + P * W64 ^ 2 := by
      rw [Nat.add_mul, Nat.mul_add, Nat.pow_two]
    have k9 : 0 < P * W64 := Nat.mul_pos hP W64_pos
    rw [Nat.mul_add P _ nx]
    omega
end Go.Proofs.Ytonbhpadoplpkaa
