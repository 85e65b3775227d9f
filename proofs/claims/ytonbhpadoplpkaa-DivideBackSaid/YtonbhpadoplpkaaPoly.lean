import Derived.Test.YtonbhpadoplpkaaInt2
/- Polynomials in memory: a slice of records (sign, limbs), only read. -/
namespace Go.Proofs.Ytonbhpadoplpkaa
open Go.RowKit Go.Deep
/-- A number as it is handed in: the sign and the limbs. -/
abbrev Raw := Bool × List Nat
/-- At the slice's address A stand the records xs, below block B. -/
structure Poly (w : World) (B : Nat) (A : Option Addr) (xs : List Raw) : Prop where
  cells : 0 < xs.length → ∃ ad, A = some ad ∧ ad.block < B ∧ ∀ j, j < xs.length → ∃ (Am : Option Addr) (l c : Nat),
    w.cell? (ad.add (j * 2)) = some (.bool (xs.getD j (false, [])).1) ∧ w.cell? ⟨(ad.add (j * 2)).block, (ad.add (j * 2)).off + 1, none⟩ = some (.slice Am l c) ∧
    l = (xs.getD j (false, [])).2.length ∧ l ≤ c ∧ Lim w B Am (xs.getD j (false, [])).2
section
variable {w w' : World} {B : Nat} {A : Option Addr} {xs : List Raw}
theorem Poly.nil (w : World) (B : Nat) (A : Option Addr) : Poly w B A [] := ⟨fun h => absurd h (by simp)⟩
theorem Poly.at_ (h : Poly w B A xs) {k : Nat} (hk : k < xs.length) : ∃ ad Am l c, A = some ad ∧ ad.block < B ∧
    w.cell? (ad.add (k * 2)) = some (.bool (xs.getD k (false, [])).1) ∧ w.cell? ⟨(ad.add (k * 2)).block, (ad.add (k * 2)).off + 1, none⟩ = some (.slice Am l c) ∧
    l = (xs.getD k (false, [])).2.length ∧ l ≤ c ∧ Lim w B Am (xs.getD k (false, [])).2 := by
  obtain ⟨ad, e, hb, hc⟩ := h.cells (by omega)
  obtain ⟨Am, l, c, h1⟩ := hc k hk
  exact ⟨ad, Am, l, c, e, hb, h1⟩
theorem Poly.below (h : Poly w B A xs) (hb : Below B w w') : Poly w' B A xs :=
  ⟨fun hn => by
    obtain ⟨ad, e, hB, hc⟩ := h.cells hn
    refine ⟨ad, e, hB, fun j hj => ?_⟩
    obtain ⟨Am, l, c, h1, h2, h3, h4, h5⟩ := hc j hj
    exact ⟨Am, l, c, by rw [hb.cell (by rw [block_of_add]; exact hB)]; exact h1, by rw [hb.cell (by show (ad.add (j * 2)).block < B; rw [block_of_add]; exact hB)]; exact h2, h3, h4, h5.below hb⟩⟩
theorem Poly.drewN (h : Poly w B A xs) (n : Nat) : Poly (w.drewN n) B A xs := h.below ⟨rfl, rfl, rfl, Nat.le_refl _, fun _ _ => rfl⟩
theorem Poly.more {B' : Nat} (h : Poly w B A xs) (hB : B ≤ B') : Poly w B' A xs :=
  ⟨fun hn => by
    obtain ⟨ad, e, hb, hc⟩ := h.cells hn
    refine ⟨ad, e, by omega, fun j hj => ?_⟩
    obtain ⟨Am, l, c, h1, h2, h3, h4, h5⟩ := hc j hj
    exact ⟨Am, l, c, h1, h2, h3, h4, h5.more hB⟩⟩
end

/-- Is it a number as the document has it? -/
def rightInt (x : Raw) : Bool := (x.2.length == 0 && !x.1) || (x.2.length != 0 && decide (x.2.length ≤ 4096) && (x.2.getD (x.2.length - 1) 0 != 0))

theorem int_bne (x : Nat) : ((x : Int) != 0) = (x != 0) := by
  cases x with
  | zero => rfl
  | succ n => rfl
set_option maxRecDepth 100000 in
theorem limb_right (b : Bool) (A : Option Addr) (l c : Nat) (xs : List Nat) (w : World) {B : Nat} (hB : B ≤ w.heap.size) (h1 : Lim w B A xs) (hl : l = xs.length) :
    Calls Try.prog 15 #[.agg #[.bool b, .slice A l c]] w fun e w' => e = .returned (.bool (rightInt (b, xs))) ∧ Below w.heap.size w w' := by
  subst hl
  have hwo : Below w.heap.size w (w.alloc (.cells #[.bool b, .slice A xs.length c] 24)) := (Below.refl _ w).alloc (Nat.le_refl _) _
  by_cases h0 : xs.length = 0
  · obtain rfl := List.eq_nil_of_length_eq_zero h0
    have HE := Lib.hid (show rightInt (b, []) = !b by simp [rightInt])
    rw [HE.out]
    cases b
    all_goals
      go_enter Try.func15, Try.ntmps15
      go_wp2_with fail
      go_ret
      exact ⟨rfl, hwo⟩
  · have t0 : ((xs.length : Int) == 0) = false := beq_eq_false_iff_ne.2 (by omega)
    have hp : xs.length - 1 < xs.length := by omega
    by_cases h4 : xs.length ≤ 4096
    · have tI : (xs.length : Int) ≤ 4096 := by omega
      obtain ⟨ad, rfl, hb, hcell⟩ := (h1.below (hwo.mono hB)).at_ hp
      obtain ⟨x, hx⟩ : ∃ x, xs.getD (xs.length - 1) 0 = x := ⟨_, rfl⟩
      rw [hx] at hcell
      have HE := Lib.hid (show rightInt (b, xs) = (x != 0) by
        have e0 : (xs.length == 0) = false := beq_eq_false_iff_ne.2 h0
        unfold rightInt
        simp only [e0, bne, hx, decide_eq_true h4, Bool.false_and, Bool.false_or, Bool.not_false, Bool.true_and])
      rw [HE.out]
      obtain ⟨m, hm⟩ : ∃ m, xs.length - 1 = m := ⟨_, rfl⟩
      have e1 : ((xs.length : Int) - 1) = (m : Int) := by omega
      have hml : (m : Int) < (xs.length : Int) := by omega
      rw [hm] at hcell
      have tp : (0 : Int) < (xs.length : Int) := by omega
      clear h0 hp h4 hx hm
      go_enter Try.func15, Try.ntmps15
      go_wp2_with fail
      go_ret
      exact ⟨by rw [← int_bne]; rfl, hwo⟩
    · have tI : (4096 : Int) < (xs.length : Int) := by omega
      have HE := Lib.hid (show rightInt (b, xs) = false by simp [rightInt, h4]; intro h; exact absurd (by rw [h]; rfl) h0)
      rw [HE.out]
      have tp : (0 : Int) < (xs.length : Int) := by omega
      clear h0 hp h4
      go_enter Try.func15, Try.ntmps15
      go_wp2_with fail
      go_ret
      exact ⟨rfl, hwo⟩
/-- Is it a polynomial as the document has it? -/
def rightPoly (xs : List Raw) : Bool := decide (xs.length ≤ 4096) && xs.all rightInt && (xs.length == 0 || decide (0 < (xs.getD (xs.length - 1) (false, [])).2.length))

theorem all_take_succ {xs : List Raw} {k : Nat} (hk : k < xs.length) : (xs.take (k + 1)).all rightInt = ((xs.take k).all rightInt && rightInt (xs.getD k (false, []))) := by
  have e : xs.getD k (false, []) = xs[k] := by simp [hk]
  rw [List.take_succ_eq_append_getElem hk, List.all_append, e]; simp
theorem not_all_of {xs : List Raw} {k : Nat} (hk : k < xs.length) (h : rightInt (xs.getD k (false, [])) = false) : xs.all rightInt = false := by
  have e : xs.getD k (false, []) = xs[k] := by simp [hk]
  rw [List.all_eq_false]
  exact ⟨xs[k], List.getElem_mem hk, by rw [← e, h]; simp⟩
end Go.Proofs.Ytonbhpadoplpkaa
/- The package series: may, nought, unit. -/
namespace Go.Proofs.Ytonbhpadoplpkaa
open Go.RowKit Go.Deep
/-- At the slice's address A stand slices of records. -/
structure Polys (w : World) (B : Nat) (A : Option Addr) (xss : List (List Raw)) : Prop where
  cells : 0 < xss.length → ∃ ad, A = some ad ∧ ad.block < B ∧ ∀ j, j < xss.length → ∃ (Am : Option Addr) (l c : Nat),
    w.cell? (ad.add j) = some (.slice Am l c) ∧ l = (xss.getD j []).length ∧ l ≤ c ∧ Poly w B Am (xss.getD j [])
theorem Polys.at_ {w : World} {B : Nat} {A : Option Addr} {xss : List (List Raw)} (h : Polys w B A xss) {k : Nat} (hk : k < xss.length) : ∃ ad Am l c, A = some ad ∧ ad.block < B ∧
    w.cell? (ad.add k) = some (.slice Am l c) ∧ l = (xss.getD k []).length ∧ l ≤ c ∧ Poly w B Am (xss.getD k []) := by
  obtain ⟨ad, e, hb, hc⟩ := h.cells (by omega)
  obtain ⟨Am, l, c, h1⟩ := hc k hk
  exact ⟨ad, Am, l, c, e, hb, h1⟩
theorem Polys.below {w w' : World} {B : Nat} {A : Option Addr} {xss : List (List Raw)} (h : Polys w B A xss) (hb : Below B w w') : Polys w' B A xss :=
  ⟨fun hn => by
    obtain ⟨ad, e, hB, hc⟩ := h.cells hn
    refine ⟨ad, e, hB, fun j hj => ?_⟩
    obtain ⟨Am, l, c, h1, h3, h4, h5⟩ := hc j hj
    exact ⟨Am, l, c, by rw [hb.cell (by rw [block_of_add]; exact hB)]; exact h1, h3, h4, h5.below hb⟩⟩

/-- What is refused ahead of all reckoning. -/
def mayE (terms : Int) (xss : List (List Raw)) : Int := if terms < 0 then 2 else if xss.all rightPoly then (if 4096 < terms then 3 else 0) else 2
theorem all_polys_succ {xss : List (List Raw)} {k : Nat} (hk : k < xss.length) : (xss.take (k + 1)).all rightPoly = ((xss.take k).all rightPoly && rightPoly (xss.getD k [])) := by
  have e : xss.getD k [] = xss[k] := by simp [hk]
  rw [List.take_succ_eq_append_getElem hk, List.all_append, e]; simp
theorem not_all_polys {xss : List (List Raw)} {k : Nat} (hk : k < xss.length) (h : rightPoly (xss.getD k []) = false) : xss.all rightPoly = false := by
  have e : xss.getD k [] = xss[k] := by simp [hk]
  rw [List.all_eq_false]
  exact ⟨xss[k], List.getElem_mem hk, by rw [← e, h]; simp⟩
/-- Is the number at this place nought? -/
def noughtAt (xs : List Raw) (k : Nat) : Bool := (xs.getD k (false, [])).2.length == 0
/-- Is the number at this place 1 or -1? -/
def unitAt (xs : List Raw) (k : Nat) : Bool := (xs.getD k (false, [])).2.length == 1 && (xs.getD k (false, [])).2.getD 0 0 == 1
theorem int_beq (x y : Nat) : ((x : Int) == (y : Int)) = (x == y) := by
  by_cases h : x = y
  · subst h; simp
  · rw [beq_eq_false_iff_ne.2 h, beq_eq_false_iff_ne.2 (by omega)]
end Go.Proofs.Ytonbhpadoplpkaa
