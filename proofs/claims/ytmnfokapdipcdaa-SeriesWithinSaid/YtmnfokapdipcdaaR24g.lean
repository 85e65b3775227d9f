import Derived.Test.YtmnfokapdipcdaaR24f
import Derived.Test.YtmnfokapdipcdaaRev
/- The package rosetteref24: rows of numbers that are written; within. -/
namespace Go.Proofs.Ytmnfokapdipcdaa
open Go.RowKit Go.Deep
theorem trip_set (l : List (Bool × Value)) : ∀ j, j < l.length → ∀ p : Bool × Value, trip (l.set j p) = (((trip l).set (j * 3) (.bool p.1)).set (j * 3 + 1) p.2).set (j * 3 + 2) (.int .i64 0) := by
  induction l with
  | nil => intro j hj; simp at hj
  | cons q l ih =>
    intro j hj p
    have e : ∀ r : Bool × Value, ∀ m, trip (r :: m) = .bool r.1 :: r.2 :: .int .i64 0 :: trip m := fun r m => by simp [trip]
    cases j with
    | zero => simp [e]
    | succ j =>
      rw [List.set_cons_succ, e, e, ih j (by simpa using hj) p, show (j + 1) * 3 = j * 3 + 1 + 1 + 1 by omega]
      rfl
theorem store3_grown (w : World) (g i j k : Nat) (a b c : Value) : w.grownBy (((w.setCell ⟨g, i, none⟩ a).setCell ⟨g, j, none⟩ b).setCell ⟨g, k, none⟩ c) (some g) := by
  refine ⟨rfl, rfl, rfl, by simp, fun i _ hi => ?_⟩
  have hi : i ≠ g := fun e => hi (by rw [e])
  rw [Below.heap_setCell _ _ _ i (by simpa using hi), Below.heap_setCell _ _ _ i (by simpa using hi), Below.heap_setCell _ _ _ i (by simpa using hi)]
theorem NRow.type {w : World} {base g n c : Nat} {zs : List Int} (h : NRow w base (.slice (some ⟨g, 0, none⟩) n c) zs) : base ≤ g ∧ ∃ cs, w.heap[g]? = some (.cells cs 79 (0, 0)) := by
  obtain ⟨l, ho, hl, ha⟩ := h
  rcases ho.2 with ⟨e, _⟩ | ⟨g', cap, cur, e, hg, hh, _⟩
  · cases e
  · injection e with e1
    injection e1 with e1
    injection e1 with e1
    subst e1
    exact ⟨hg, cur, hh⟩
/-- A row that lies above the one that is written. -/
theorem NRow.other {w w' : World} {base g : Nat} {v : Value} {zs : List Int} (h : NRow w base v zs) (hg : w.grownBy w' (some g)) (hlt : g < base) (ht : ∃ cs, w.heap[g]? = some (.cells cs 79 (0, 0))) : NRow w' base v zs := by
  obtain ⟨l, ho, hl, ha⟩ := h
  refine ⟨l, ho.kept hg ?_, hl, fun j hj => (ha j hj).grown hg (fun k hk => by injection hk with hk; subst hk; exact ht)⟩
  cases hv : v.ownBlock with
  | none => exact .inl rfl
  | some k =>
    right
    intro e
    injection e with e
    have := (ho.lt k hv).1
    omega
/-- A number of a row is written. -/
theorem NRow.set {w : World} {base g n c : Nat} {zs : List Int} (h : NRow w base (.slice (some ⟨g, 0, none⟩) n c) zs) {j : Nat} (hj : j < zs.length) {b : Bool} {u : Value} {z : Int} (hz : NumAt w (.agg #[.bool b, u, .int .i64 0]) z) :
    NRow (((w.setCell ⟨g, j * 3, none⟩ (.bool b)).setCell ⟨g, j * 3 + 1, none⟩ u).setCell ⟨g, j * 3 + 2, none⟩ (.int .i64 0)) base (.slice (some ⟨g, 0, none⟩) n c) (zs.set j z) := by
  have hty := h.type
  obtain ⟨l, ho, hl, ha⟩ := h
  have hgr := store3_grown w g (j * 3) (j * 3 + 1) (j * 3 + 2) (.bool b) u (.int .i64 0)
  have key : ∀ v' z', NumAt w v' z' → NumAt _ v' z' := fun v' z' h' => h'.grown hgr (fun k hk => by injection hk with hk; subst hk; exact hty.2)
  refine ⟨l.set j (b, u), ⟨?_, ?_⟩, by simp [hl], fun k hk => ?_⟩
  · rw [trip_length, List.length_set, List.length_set, hl]
  · rcases ho.2 with ⟨e, _⟩ | ⟨g', cap, cur, e, hg, hh, hnc, h63, hcap, hpre⟩
    · cases e
    · injection e with e1 e2 e3
      injection e1 with e1
      injection e1 with e1
      subst e1
      have q3 : (((w.setCell ⟨g, j * 3, none⟩ (.bool b)).setCell ⟨g, j * 3 + 1, none⟩ u).setCell ⟨g, j * 3 + 2, none⟩ (.int .i64 0)).heap[g]? = some (.cells (((cur.setIfInBounds (j * 3) (.bool b)).setIfInBounds (j * 3 + 1) u).setIfInBounds (j * 3 + 2) (.int .i64 0)) 79 (0, 0)) := by
        simp [World.setCell, Array.getElem?_modify, hh]
      refine .inr ⟨g, c, _, by rw [List.length_set, ← e2], hg, q3, by rw [List.length_set]; omega, by omega, by simp [hcap, e3], ?_⟩
      rw [List.length_set]
      simp only [Array.toList_setIfInBounds, List.take_set, hpre]
      rw [trip_set l j (by omega)]
  · rw [List.length_set] at hk
    by_cases hkj : k = j
    · subst hkj
      rw [show (l.set k (b, u)).getD k rec0 = (b, u) by simp [show k < l.length by omega], show (zs.set k z).getD k 0 = z by simp [hj]]
      exact key _ _ hz
    · rw [show (l.set j (b, u)).getD k rec0 = l.getD k rec0 by simp [List.getElem?_set_ne (show j ≠ k by omega)], show (zs.set j z).getD k 0 = zs.getD k 0 by simp [List.getElem?_set_ne (show j ≠ k by omega)]]
      exact key _ _ (ha k hk)
theorem firstZ_set {z z2 : Nat → Int} {n j : Nat} (h : ∀ m, m < n → m ≠ j → z m = z2 m) : (firstZ z n).set j (z2 j) = firstZ z2 n := by
  apply List.ext_getElem?
  intro m
  unfold firstZ
  rw [List.getElem?_set]
  by_cases hm : m < n
  · by_cases hj : j = m
    · subst hj
      simp [hm]
    · rw [if_neg hj]
      simp [hm, h m hm (fun e => hj e.symm)]
  · by_cases hj : j = m
    · subst hj
      simp [hm]
    · rw [if_neg hj]
      simp [hm]
/-! ### plain: power by power -/
/-- The first i powers of q, each times a number of a. -/
def sumP (a q : Nat → Int) : Nat → Nat → Int
  | 0, _ => 0
  | i + 1, m => sumP a q i m + a i * pwZ q i m
theorem pw_one (N m : Nat) {q : Nat → Int} (hq : q 0 = 0) : compZ (fun j => if j = N then 1 else 0) q m = pwZ q N m := by
  induction N generalizing m with
  | zero =>
    rw [show (fun j => if j = 0 then (1 : Int) else 0) = constZ 1 from rfl, compZ_const hq]
    rfl
  | succ N ih =>
    rw [compZ_step hq]
    have e : tailZ (fun j => if j = N + 1 then (1 : Int) else 0) = fun j => if j = N then 1 else 0 := by
      funext j
      show (if j + 1 = N + 1 then (1 : Int) else 0) = if j = N then 1 else 0
      by_cases h : j = N
      · rw [if_pos (by omega), if_pos h]
      · rw [if_neg (by omega), if_neg h]
    rw [e, show (if 0 = N + 1 then (1 : Int) else 0) = 0 from if_neg (by omega), mulZ_congr (a' := q) (b' := pwZ q N) (fun _ _ => rfl) (fun j _ => ih j), mulZ_comm]
    show constZ 0 m + mulZ (pwZ q N) q m = mulZ (pwZ q N) q m
    unfold constZ
    split <;> omega
theorem sumP_comp (a : Nat → Int) {q : Nat → Int} (hq : q 0 = 0) (m : Nat) : ∀ N, sumP a q N m = compZ (fun j => if j < N then a j else 0) q m
  | 0 => by
    rw [compZ_congr hq (a' := fun n => 0 * xZ n) m (fun j _ => by simp), compZ_scale hq]
    simp [sumP]
  | N + 1 => by
    show sumP a q N m + a N * pwZ q N m = _
    rw [sumP_comp a hq m N, ← pw_one N m hq, ← compZ_scale hq, ← compZ_add hq]
    refine compZ_congr hq m fun j _ => ?_
    by_cases h : j = N
    · subst h; simp
    · by_cases h2 : j < N
      · rw [if_pos h2, if_neg h, if_pos (by omega)]; omega
      · rw [if_neg h2, if_neg h, if_neg (by omega)]; omega
theorem sumP_all (a : Nat → Int) {q : Nat → Int} (hq : q 0 = 0) {n m : Nat} (hm : m < n) : sumP a q n m = compZ a q m := by
  rw [sumP_comp a hq]
  exact compZ_congr hq m fun j hj => if_pos (by omega)
theorem pw_small {b : Nat → Int} {n B : Nat} (hn : n ≤ 4096) (hb : ∀ k, k < n → (b k).natAbs ≤ B) (k m : Nat) (hm : m < n) : (pwZ b k m).natAbs ≤ (4096 * B) ^ k := by
  rw [← powZ_is (a := constZ 1) (fun _ => rfl)]
  refine powZ_small hn (fun k _ => ?_) hb k m hm
  unfold constZ
  split <;> simp
theorem pw_small2 {b : Nat → Int} {n B : Nat} (hn : n ≤ 4096) (hB : 0 < B) (hb : ∀ k, k < n → (b k).natAbs ≤ B) (k m : Nat) (hk : k ≤ n) (hm : m < n) : (pwZ b k m).natAbs ≤ (4096 * B) ^ n :=
  Nat.le_trans (pw_small hn hb k m hm) (Nat.pow_le_pow_right (by omega) hk)
theorem sumP_small {a b : Nat → Int} {n B : Nat} (hn : n ≤ 4096) (hB : 0 < B) (ha : ∀ k, k < n → (a k).natAbs ≤ B) (hb : ∀ k, k < n → (b k).natAbs ≤ B) (m : Nat) (hm : m < n) : ∀ i, i ≤ n → (sumP a b i m).natAbs ≤ i * ((4096 * B) ^ n * B)
  | 0, _ => by simp [sumP]
  | i + 1, hi => by
    have h1 := sumP_small hn hB ha hb m hm i (by omega)
    have h2 : (a i * pwZ b i m).natAbs ≤ (4096 * B) ^ n * B := by
      rw [Int.natAbs_mul, Nat.mul_comm]
      exact Nat.mul_le_mul (pw_small2 hn hB hb i m (by omega) hm) (ha i (by omega))
    have h3 : (i + 1) * ((4096 * B) ^ n * B) = i * ((4096 * B) ^ n * B) + (4096 * B) ^ n * B := by rw [Nat.add_mul, Nat.one_mul]
    show (sumP a b i m + a i * pwZ b i m).natAbs ≤ _
    omega
/-- Within a round: places below j have the next sum. -/
def mixP (a q : Nat → Int) (i j m : Nat) : Int := if m < j then sumP a q (i + 1) m else sumP a q i m
theorem mix_zero (a q : Nat → Int) (i m : Nat) : mixP a q i 0 m = sumP a q i m := if_neg (by omega)
theorem mix_full (a q : Nat → Int) {i n m : Nat} (h : m < n) : mixP a q i n m = sumP a q (i + 1) m := if_pos h
theorem mix_at (a q : Nat → Int) (i j : Nat) : mixP a q i j j = sumP a q i j := if_neg (by omega)
theorem mix_next (a q : Nat → Int) (i j : Nat) : mixP a q i (j + 1) j = sumP a q i j + a i * pwZ q i j := if_pos (by omega)
theorem mix_else (a q : Nat → Int) {i j m : Nat} (h : m ≠ j) : mixP a q i j m = mixP a q i (j + 1) m := by
  unfold mixP
  by_cases h1 : m < j
  · rw [if_pos h1, if_pos (by omega)]
  · rw [if_neg h1, if_neg (by omega)]
theorem mix_skip (a q : Nat → Int) {i j : Nat} (h : a i = 0 ∨ pwZ q i j = 0) (m : Nat) : mixP a q i j m = mixP a q i (j + 1) m := by
  by_cases hm : m = j
  · subst hm
    rw [mix_at, mix_next]
    rcases h with h | h <;> rw [h] <;> simp
  · exact mix_else a q hm
end Go.Proofs.Ytmnfokapdipcdaa
