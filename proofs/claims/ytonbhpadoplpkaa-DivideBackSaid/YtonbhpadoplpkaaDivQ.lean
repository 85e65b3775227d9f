import Derived.Test.YtonbhpadoplpkaaNat6
import Derived.Test.YtonbhpadoplpkaaDivP
/- Long division, plain: the loop that gives back. -/
namespace Go.Proofs.Ytonbhpadoplpkaa
theorem top_zero {win : List Nat} {n : Nat} (hl : win.length = n + 1) (h : val win < W64 ^ n) : win.getD n 0 = 0 := by
  have h1 := val_split win n (by omega)
  have h2 := val_drop_step win n (by omega)
  rw [List.drop_of_length_le (i := n + 1) (by omega), val_nil, Nat.mul_zero, Nat.add_zero] at h2
  rw [h2] at h1
  rcases Nat.eq_zero_or_pos (win.getD n 0) with h0 | h0
  · exact h0
  · have := Nat.mul_le_mul_left (W64 ^ n) (show 1 ≤ win.getD n 0 from h0)
    omega
theorem top_pos {win : List Nat} {n : Nat} (hs : Small win) (hl : win.length = n + 1) (h : W64 ^ n ≤ val win) : win.getD n 0 ≠ 0 := by
  intro h0
  have h1 := val_split win n (by omega)
  have h2 := val_drop_step win n (by omega)
  rw [List.drop_of_length_le (i := n + 1) (by omega), val_nil, Nat.mul_zero, Nat.add_zero, h0] at h2
  rw [h2, Nat.mul_zero, Nat.add_zero] at h1
  have h3 := val_lt (hs.take n)
  rw [List.length_take, Nat.min_eq_left (by omega)] at h3
  omega
theorem getD_win (os : List Nat) (p n k : Nat) (h : k < n) : ((os.drop p).take n).getD k 0 = os.getD (p + k) 0 := by
  simp only [List.getD_eq_getElem?_getD, List.getElem?_take, if_pos h, List.getElem?_drop]
theorem win_lt {os : List Nat} (hs : Small os) {p n : Nat} (hp : p + n ≤ os.length) : val ((os.drop p).take n) < W64 ^ n := by
  have h := val_lt ((hs.drop p).take n)
  rwa [List.length_take, List.length_drop, Nat.min_eq_left (by omega)] at h
/-- The loop that gives the divisor back, while the window is below 0. -/
structure Giving (us os : List Nat) (p n V q : Nat) : Prop where
  len : os.length = us.length
  tk : os.take p = us.take p
  dr : os.drop (p + (n + 3)) = us.drop (p + (n + 3))
  sum : val ((os.drop p).take (n + 3)) + q * V = val ((us.drop p).take (n + 3)) + W64 ^ (n + 3)
  close : q * V < val ((us.drop p).take (n + 3)) + W64 ^ (n + 2)
theorem Giving.pos {us os : List Nat} {p n V q : Nat} (h : Giving us os p n V q) (hs : Small os) (hp : p + (n + 3) ≤ us.length) : 1 ≤ q := by
  have h1 := win_lt hs (p := p) (n := n + 3) (by rw [h.len]; exact hp)
  have h2 := h.sum
  rcases Nat.eq_zero_or_pos q with h0 | h0
  · rw [h0, Nat.zero_mul] at h2; omega
  · exact h0
/-- What is told when the window is right. -/
structure Given (us os : List Nat) (p n V q : Nat) : Prop where
  len : os.length = us.length
  tk : os.take p = us.take p
  dr : os.drop (p + (n + 3)) = us.drop (p + (n + 3))
  rest : val ((os.drop p).take (n + 3)) = val ((us.drop p).take (n + 3)) % V
  quo : q = val ((us.drop p).take (n + 3)) / V
theorem div_of_sum {a q V m : Nat} (h : a + q * V = m) (ha : a < V) : a = m % V ∧ q = m / V := by
  subst h
  constructor
  · rw [Nat.add_mul_mod_self_right, Nat.mod_eq_of_lt ha]
  · rw [Nat.add_mul_div_right _ _ (by omega), Nat.div_eq_of_lt ha, Nat.zero_add]
theorem Giving.step {us os os' : List Nat} {p n V q c : Nat} (h : Giving us os p n V q) (hs : Small os) (hs' : Small os') (hp : p + (n + 3) ≤ us.length) (hVl : V < W64 ^ (n + 2))
    (hlen : os'.length = os.length) (htk : os'.take p = os.take p) (hdr : os'.drop (p + (n + 3)) = os.drop (p + (n + 3)))
    (hv : val ((os'.drop p).take (n + 3)) + W64 ^ (n + 3) * c = val ((os.drop p).take (n + 3)) + V) (hc : c ≤ 1) :
    (os'.getD (p + (n + 2)) 0 ≠ 0 ∧ Giving us os' p n V (q - 1)) ∨ (os'.getD (p + (n + 2)) 0 = 0 ∧ Given us os' p n V (q - 1)) := by
  have hq := h.pos hs hp
  have h1 := win_lt hs (p := p) (n := n + 3) (by rw [h.len]; exact hp)
  have hl' : os'.length = us.length := hlen.trans h.len
  have hwl : ((os'.drop p).take (n + 3)).length = n + 2 + 1 := by rw [List.length_take, List.length_drop]; omega
  have hg := getD_win os' p (n + 3) (n + 2) (by omega)
  have hsw : Small ((os'.drop p).take (n + 3)) := (hs'.drop p).take (n + 3)
  have hsum := h.sum
  have hcl := h.close
  have hW3 : 2 * W64 ^ (n + 2) ≤ W64 ^ (n + 3) := by
    rw [Nat.pow_succ W64 (n + 2), Nat.mul_comm 2]
    exact Nat.mul_le_mul_left _ (by rw [W64_eq]; omega)
  obtain ⟨r, rfl⟩ : ∃ r, q = r + 1 := ⟨q - 1, by omega⟩
  rw [Nat.add_sub_cancel]
  rw [Nat.add_mul, Nat.one_mul] at hsum hcl
  have hc2 : c = 0 ∨ c = 1 := by omega
  rcases hc2 with rfl | rfl
  · rw [Nat.mul_zero, Nat.add_zero] at hv
    refine .inl ⟨?_, ⟨hl', htk.trans h.tk, hdr.trans h.dr, by omega, by omega⟩⟩
    rw [← hg]
    exact top_pos hsw hwl (by omega)
  · rw [Nat.mul_one] at hv
    have h5 := div_of_sum (a := val ((os'.drop p).take (n + 3))) (q := r) (V := V) (m := val ((us.drop p).take (n + 3))) (by omega) (by omega)
    refine .inr ⟨?_, ⟨hl', htk.trans h.tk, hdr.trans h.dr, h5.1, h5.2⟩⟩
    rw [← hg]
    exact top_zero hwl (by omega)
/-- What was taken away at first. -/
theorem taken {us os : List Nat} {p n V q b : Nat} (hlen : os.length = us.length) (htk : os.take p = us.take p) (hdr : os.drop (p + (n + 3)) = us.drop (p + (n + 3)))
    (hv : val ((os.drop p).take (n + 3)) + q * V = val ((us.drop p).take (n + 3)) + W64 ^ (n + 3) * b) (hb : b ≤ 1) (hQ : val ((us.drop p).take (n + 3)) / V ≤ q) (hcl : q * V < val ((us.drop p).take (n + 3)) + W64 ^ (n + 2)) (hV : 0 < V) :
    (b = 0 ∧ Given us os p n V q) ∨ (b = 1 ∧ Giving us os p n V q) := by
  have hb2 : b = 0 ∨ b = 1 := by omega
  rcases hb2 with rfl | rfl
  · rw [Nat.mul_zero, Nat.add_zero] at hv
    have h1 := Nat.lt_div_mul_add (a := val ((us.drop p).take (n + 3))) hV
    have h2 := Nat.mul_le_mul_right V hQ
    have h5 := div_of_sum (a := val ((os.drop p).take (n + 3))) (q := q) (V := V) (m := val ((us.drop p).take (n + 3))) (by omega) (by omega)
    exact .inl ⟨rfl, ⟨hlen, htk, hdr, h5.1, h5.2⟩⟩
  · rw [Nat.mul_one] at hv
    exact .inr ⟨rfl, ⟨hlen, htk, hdr, hv, hcl⟩⟩
theorem long_start {xs ys : List Nat} (hx : Small xs) (hy : Small ys) {lb D : Nat} (hyl : ys.length = lb + 2) (hxl : xs.length = D + (lb + 2)) (ht : ys.getD (lb + 1) 0 ≠ 0) :
    64 - bitLen (ys.getD (lb + 1) 0) < 64 ∧ val ys * 2 ^ (64 - bitLen (ys.getD (lb + 1) 0)) < W64 ^ (lb + 2) ∧ W64 ^ (lb + 1) ≤ val ys * 2 ^ (64 - bitLen (ys.getD (lb + 1) 0)) ∧ 0 < val ys ∧
    val xs * 2 ^ (64 - bitLen (ys.getD (lb + 1) 0)) < W64 ^ (D + 1) * (val ys * 2 ^ (64 - bitLen (ys.getD (lb + 1) 0))) := by
  have hn : Norm ys := .inr (by rw [hyl]; exact ht)
  have he := eq_limbs hy hn
  have hlc : lc (val ys) = lb + 2 := by unfold lc; rw [← he]; exact hyl
  have hge : W64 ^ (lb + 1) ≤ val ys := by
    rcases Nat.lt_or_ge (val ys) (W64 ^ (lb + 1)) with h | h
    · have := lc_le.2 h; omega
    · exact h
  have hpos : 0 < val ys := Nat.lt_of_lt_of_le (Nat.pow_pos W64_pos) hge
  obtain ⟨s, t, h1, h2, h3, h4, h5, _, _⟩ := moved_lc (m := val ys) (n := val ys) (by omega) (Nat.le_refl _)
  rw [hlc, ← he] at h1
  have h1' : ys.getD (lb + 1) 0 = t := h1
  rw [h1', h3]
  rw [hlc] at h5
  have hp : 1 ≤ 2 ^ s := Nat.pow_pos (by omega)
  refine ⟨by omega, lc_le.1 (by omega), Nat.le_trans hge (Nat.le_mul_of_pos_right _ hp), hpos, ?_⟩
  rw [← Nat.mul_assoc]
  refine Nat.mul_lt_mul_of_pos_right ?_ hp
  have h6 := val_lt hx
  rw [hxl, show D + (lb + 2) = (D + 1) + (lb + 1) by omega, Nat.pow_add] at h6
  exact Nat.lt_of_lt_of_le h6 (Nat.mul_le_mul_left _ hge)
end Go.Proofs.Ytonbhpadoplpkaa
