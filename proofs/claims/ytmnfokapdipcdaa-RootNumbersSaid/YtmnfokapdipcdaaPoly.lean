import Derived.Test.YtmnfokapdipcdaaInt2
/- Polynomials in memory: a slice of records (sign, limbs), only read. -/
namespace Go.Proofs.Ytmnfokapdipcdaa
open Go.RowKit Go.Deep
/-- A number as it is handed in: the sign and the limbs. -/
abbrev Raw := Bool × List Nat
/-- At the slice's address A stand the records xs, below block B. -/
structure Poly (w : World) (B : Nat) (A : Option Addr) (xs : List Raw) : Prop where
  cells : 0 < xs.length → ∃ ad, A = some ad ∧ ad.block < B ∧ ∀ j, j < xs.length → ∃ (Am : Option Addr) (l c : Nat),
    w.cell? (ad.add (j * 2)) = some (.bool (xs.getD j (false, [])).1) ∧ w.cell? ⟨(ad.add (j * 2)).block, (ad.add (j * 2)).off + 1, none⟩ = some (.slice Am l c) ∧
    l = (xs.getD j (false, [])).2.length ∧ l ≤ c ∧ Lim w B Am (xs.getD j (false, [])).2
section
variable {w w' : World} {B : Nat} {A : Option Addr} {xs : List Raw}
theorem Poly.nil (w : World) (B : Nat) (A : Option Addr) : Poly w B A [] := ⟨fun h => absurd h (by simp)⟩
theorem Poly.at_ (h : Poly w B A xs) {k : Nat} (hk : k < xs.length) : ∃ ad Am l c, A = some ad ∧ ad.block < B ∧
    w.cell? (ad.add (k * 2)) = some (.bool (xs.getD k (false, [])).1) ∧ w.cell? ⟨(ad.add (k * 2)).block, (ad.add (k * 2)).off + 1, none⟩ = some (.slice Am l c) ∧
    l = (xs.getD k (false, [])).2.length ∧ l ≤ c ∧ Lim w B Am (xs.getD k (false, [])).2 := by
  obtain ⟨ad, e, hb, hc⟩ := h.cells (by omega)
  obtain ⟨Am, l, c, h1⟩ := hc k hk
  exact ⟨ad, Am, l, c, e, hb, h1⟩
theorem Poly.below (h : Poly w B A xs) (hb : Below B w w') : Poly w' B A xs :=
  ⟨fun hn => by
    obtain ⟨ad, e, hB, hc⟩ := h.cells hn
    refine ⟨ad, e, hB, fun j hj => ?_⟩
    obtain ⟨Am, l, c, h1, h2, h3, h4, h5⟩ := hc j hj
    exact ⟨Am, l, c, by rw [hb.cell (by rw [block_of_add]; exact hB)]; exact h1, by rw [hb.cell (by show (ad.add (j * 2)).block < B; rw [block_of_add]; exact hB)]; exact h2, h3, h4, h5.below hb⟩⟩
theorem Poly.drewN (h : Poly w B A xs) (n : Nat) : Poly (w.drewN n) B A xs := h.below ⟨rfl, rfl, rfl, Nat.le_refl _, fun _ _ => rfl⟩
theorem Poly.more {B' : Nat} (h : Poly w B A xs) (hB : B ≤ B') : Poly w B' A xs :=
  ⟨fun hn => by
    obtain ⟨ad, e, hb, hc⟩ := h.cells hn
    refine ⟨ad, e, by omega, fun j hj => ?_⟩
    obtain ⟨Am, l, c, h1, h2, h3, h4, h5⟩ := hc j hj
    exact ⟨Am, l, c, h1, h2, h3, h4, h5.more hB⟩⟩
end

/-- Is it a number as the document has it? -/
def rightInt (x : Raw) : Bool := (x.2.length == 0 && !x.1) || (x.2.length != 0 && decide (x.2.length ≤ 4096) && (x.2.getD (x.2.length - 1) 0 != 0))

theorem int_bne (x : Nat) : ((x : Int) != 0) = (x != 0) := by
  cases x with
  | zero => rfl
  | succ n => rfl
set_option maxRecDepth 100000 in
theorem limb_right (b : Bool) (A : Option Addr) (l c : Nat) (xs : List Nat) (w : World) {B : Nat} (hB : B ≤ w.heap.size) (h1 : Lim w B A xs) (hl : l = xs.length) :
    Calls Try.prog 70 #[.agg #[.bool b, .slice A l c]] w fun e w' => e = .returned (.bool (rightInt (b, xs))) ∧ Below w.heap.size w w' := by
  subst hl
  have hwo : Below w.heap.size w (w.alloc (.cells #[.bool b, .slice A xs.length c] 36)) := (Below.refl _ w).alloc (Nat.le_refl _) _
  by_cases h0 : xs.length = 0
  · obtain rfl := List.eq_nil_of_length_eq_zero h0
    have HE := Lib.hid (show rightInt (b, []) = !b by simp [rightInt])
    rw [HE.out]
    cases b
    all_goals
      go_enter Try.func70, Try.ntmps70
      go_wp2_with fail
      go_ret
      exact ⟨rfl, hwo⟩
  · have t0 : ((xs.length : Int) == 0) = false := beq_eq_false_iff_ne.2 (by omega)
    have hp : xs.length - 1 < xs.length := by omega
    by_cases h4 : xs.length ≤ 4096
    · have tI : (xs.length : Int) ≤ 4096 := by omega
      obtain ⟨ad, rfl, hb, hcell⟩ := (h1.below (hwo.mono hB)).at_ hp
      obtain ⟨x, hx⟩ : ∃ x, xs.getD (xs.length - 1) 0 = x := ⟨_, rfl⟩
      rw [hx] at hcell
      have HE := Lib.hid (show rightInt (b, xs) = (x != 0) by
        have e0 : (xs.length == 0) = false := beq_eq_false_iff_ne.2 h0
        unfold rightInt
        simp only [e0, bne, hx, decide_eq_true h4, Bool.false_and, Bool.false_or, Bool.not_false, Bool.true_and])
      rw [HE.out]
      obtain ⟨m, hm⟩ : ∃ m, xs.length - 1 = m := ⟨_, rfl⟩
      have e1 : ((xs.length : Int) - 1) = (m : Int) := by omega
      have hml : (m : Int) < (xs.length : Int) := by omega
      rw [hm] at hcell
      have tp : (0 : Int) < (xs.length : Int) := by omega
      clear h0 hp h4 hx hm
      go_enter Try.func70, Try.ntmps70
      go_wp2_with fail
      go_ret
      exact ⟨by rw [← int_bne]; rfl, hwo⟩
    · have tI : (4096 : Int) < (xs.length : Int) := by omega
      have HE := Lib.hid (show rightInt (b, xs) = false by simp [rightInt, h4]; intro h; exact absurd (by rw [h]; rfl) h0)
      rw [HE.out]
      have tp : (0 : Int) < (xs.length : Int) := by omega
      clear h0 hp h4
      go_enter Try.func70, Try.ntmps70
      go_wp2_with fail
      go_ret
      exact ⟨rfl, hwo⟩

/-- Is it a polynomial as the document has it? -/
def rightPoly (xs : List Raw) : Bool := decide (xs.length ≤ 4096) && xs.all rightInt && (xs.length == 0 || decide (0 < (xs.getD (xs.length - 1) (false, [])).2.length))

theorem all_take_succ {xs : List Raw} {k : Nat} (hk : k < xs.length) : (xs.take (k + 1)).all rightInt = ((xs.take k).all rightInt && rightInt (xs.getD k (false, []))) := by
  have e : xs.getD k (false, []) = xs[k] := by simp [hk]
  rw [List.take_succ_eq_append_getElem hk, List.all_append, e]; simp
theorem not_all_of {xs : List Raw} {k : Nat} (hk : k < xs.length) (h : rightInt (xs.getD k (false, [])) = false) : xs.all rightInt = false := by
  have e : xs.getD k (false, []) = xs[k] := by simp [hk]
  rw [List.all_eq_false]
  exact ⟨xs[k], List.getElem_mem hk, by rw [← e, h]; simp⟩
set_option maxRecDepth 100000 in
theorem poly_right (A : Option Addr) (l c : Nat) (xs : List Raw) (w : World) (h1 : Poly w w.heap.size A xs) (hl : l = xs.length) :
    Calls Try.prog 104 #[.slice A l c] w fun e w' => e = .returned (.bool (rightPoly xs)) ∧ Below w.heap.size w w' := by
  by_cases h4 : l ≤ 4096
  · have tI : (l : Int) ≤ 4096 := by omega
    have HL := Lib.hid hl
    have H4 := Lib.hid h4
    clear hl h4
    go_enter Try.func104, Try.ntmps104
    go_wp2_with fail
    go_loopw [10] (fun t10 wr => ∃ k : Nat, k ≤ l ∧ t10 = .int .i64 (k : Int) ∧ (xs.take k).all rightInt = true ∧ Below w.heap.size w wr) (fun t10 _ => l - (intOf t10).toNat)
    case atStart => exact ⟨0, by omega, rfl, by simp, Below.refl _ _⟩
    case round =>
      obtain ⟨k, hk, rfl, hall, hbel⟩ := hrel
      have HA := Lib.hid hall
      clear hall
      by_cases hlt : k < l
      · have HLT := Lib.hid (show k < xs.length by rw [← HL.out]; exact hlt)
        obtain ⟨ad, Am, lm, cm, rfl, hb, hc0, hc1, hlm, hcm, hlim⟩ := (h1.below hbel).at_ HLT.out
        obtain ⟨⟨b, ms⟩, hx⟩ : ∃ x, xs.getD k (false, []) = x := ⟨_, rfl⟩
        rw [hx] at hc0 hlm hlim
        have HX := Lib.hid hx
        have HLM := Lib.hid hlm
        clear hx hlm
        simp only at hc0
        have hsz := hbel.size
        go_wp2_with fail
        refine (limb_right b Am lm cm ms _ (B := w.heap.size) (by simp; omega) (hlim.alloc hsz _) HLM.out).mono ?_
        rintro e w2 ⟨rfl, hb2⟩
        have hbel2 : Below w.heap.size w w2 := (hbel.alloc hsz _).trans (hb2.mono (by simp; omega))
        cases hr : rightInt (b, ms) with
        | true =>
          have HR := Lib.hid hr
          clear hr
          go_wp2_with fail
          exact ⟨⟨k + 1, by omega, by go_num, by rw [all_take_succ HLT.out, HA.out, HX.out, HR.out]; rfl, hbel2⟩, by simp [intOf]; omega⟩
        | false =>
          have HR := Lib.hid hr
          clear hr
          have HE := Lib.hid (show rightPoly xs = false by unfold rightPoly; rw [not_all_of HLT.out (by rw [HX.out]; exact HR.out)]; simp)
          go_wp2_with fail
          rw [HE.out]
          go_ret
          exact ⟨rfl, hbel2⟩
      · obtain rfl : k = l := by omega
        have HAll := Lib.hid (show xs.all rightInt = true by have h := HA.out; rwa [List.take_of_length_le (by rw [HL.out]; omega)] at h)
        by_cases h0 : k = 0
        · subst h0
          have HE := Lib.hid (show rightPoly xs = true by
            have hx := List.eq_nil_of_length_eq_zero HL.out.symm
            rw [hx]; rfl)
          go_wp2_with fail
          rw [HE.out]
          go_ret
          exact ⟨rfl, hbel⟩
        · have t0 : ((k : Int) == 0) = false := beq_eq_false_iff_ne.2 (by omega)
          have HK := Lib.hid (show k - 1 < xs.length by rw [← HL.out]; omega)
          obtain ⟨ad, Am, lm, cm, rfl, hb, hc0, hc1, hlm, hcm, hlim⟩ := (h1.below hbel).at_ HK.out
          have HE := Lib.hid (show rightPoly xs = decide (0 < lm) by
            have h4 := H4.out
            unfold rightPoly
            rw [HAll.out, ← HL.out, decide_eq_true h4, ← hlm, show (k == 0) = false from beq_eq_false_iff_ne.2 h0]; simp)
          obtain ⟨m, hm⟩ : ∃ m, k - 1 = m := ⟨_, rfl⟩
          rw [hm] at hc1
          have e1 : ((k : Int) - 1) = (m : Int) := by omega
          have hml : (m : Int) < (k : Int) := by omega
          clear hc0 hlm hlim hm h0
          go_wp2_with fail
          rw [HE.out]
          go_ret
          exact ⟨by first | rfl | simp, hbel⟩
  · have tI : (4096 : Int) < (l : Int) := by omega
    have HE := Lib.hid (show rightPoly xs = false by unfold rightPoly; rw [decide_eq_false (by omega)]; rfl)
    rw [HE.out]
    clear hl h4
    go_enter Try.func104, Try.ntmps104
    go_wp2_with fail
    go_ret
    exact ⟨rfl, Below.refl _ _⟩
end Go.Proofs.Ytmnfokapdipcdaa
/- The package series: may, nought, unit. -/
namespace Go.Proofs.Ytmnfokapdipcdaa
open Go.RowKit Go.Deep
/-- At the slice's address A stand slices of records. -/
structure Polys (w : World) (B : Nat) (A : Option Addr) (xss : List (List Raw)) : Prop where
  cells : 0 < xss.length → ∃ ad, A = some ad ∧ ad.block < B ∧ ∀ j, j < xss.length → ∃ (Am : Option Addr) (l c : Nat),
    w.cell? (ad.add j) = some (.slice Am l c) ∧ l = (xss.getD j []).length ∧ l ≤ c ∧ Poly w B Am (xss.getD j [])
theorem Polys.at_ {w : World} {B : Nat} {A : Option Addr} {xss : List (List Raw)} (h : Polys w B A xss) {k : Nat} (hk : k < xss.length) : ∃ ad Am l c, A = some ad ∧ ad.block < B ∧
    w.cell? (ad.add k) = some (.slice Am l c) ∧ l = (xss.getD k []).length ∧ l ≤ c ∧ Poly w B Am (xss.getD k []) := by
  obtain ⟨ad, e, hb, hc⟩ := h.cells (by omega)
  obtain ⟨Am, l, c, h1⟩ := hc k hk
  exact ⟨ad, Am, l, c, e, hb, h1⟩
theorem Polys.below {w w' : World} {B : Nat} {A : Option Addr} {xss : List (List Raw)} (h : Polys w B A xss) (hb : Below B w w') : Polys w' B A xss :=
  ⟨fun hn => by
    obtain ⟨ad, e, hB, hc⟩ := h.cells hn
    refine ⟨ad, e, hB, fun j hj => ?_⟩
    obtain ⟨Am, l, c, h1, h3, h4, h5⟩ := hc j hj
    exact ⟨Am, l, c, by rw [hb.cell (by rw [block_of_add]; exact hB)]; exact h1, h3, h4, h5.below hb⟩⟩

/-- What is refused ahead of all reckoning. -/
def mayE (terms : Int) (xss : List (List Raw)) : Int := if terms < 0 then 2 else if xss.all rightPoly then (if 4096 < terms then 3 else 0) else 2
theorem all_polys_succ {xss : List (List Raw)} {k : Nat} (hk : k < xss.length) : (xss.take (k + 1)).all rightPoly = ((xss.take k).all rightPoly && rightPoly (xss.getD k [])) := by
  have e : xss.getD k [] = xss[k] := by simp [hk]
  rw [List.take_succ_eq_append_getElem hk, List.all_append, e]; simp
theorem not_all_polys {xss : List (List Raw)} {k : Nat} (hk : k < xss.length) (h : rightPoly (xss.getD k []) = false) : xss.all rightPoly = false := by
  have e : xss.getD k [] = xss[k] := by simp [hk]
  rw [List.all_eq_false]
  exact ⟨xss[k], List.getElem_mem hk, by rw [← e, h]; simp⟩
set_option maxRecDepth 100000 in
theorem series_may (terms : Int) (A : Option Addr) (l c : Nat) (xss : List (List Raw)) (w : World) (h1 : Polys w w.heap.size A xss) (hl : l = xss.length) (hl4 : (l : Int) ≤ 4096) :
    Calls Try.prog 50 #[.int .i64 terms, .slice A l c] w fun e w' => e = .returned (.int .i64 (mayE terms xss)) ∧ Below w.heap.size w w' := by
  have HL := Lib.hid hl
  clear hl
  by_cases hneg : terms < 0
  · have HE := Lib.hid (show mayE terms xss = 2 by unfold mayE; rw [if_pos hneg])
    rw [HE.out]
    go_enter Try.func50, Try.ntmps50
    go_wp2_with fail
    go_ret
    exact ⟨rfl, Below.refl _ _⟩
  · have HN := Lib.hid hneg
    have tneg : 0 ≤ terms := by omega
    clear hneg
    go_enter Try.func50, Try.ntmps50
    go_wp2_with fail
    go_loopw [11] (fun t11 wr => ∃ k : Nat, k ≤ l ∧ t11 = .int .i64 (k : Int) ∧ (xss.take k).all rightPoly = true ∧ Below w.heap.size w wr) (fun t11 _ => l - (intOf t11).toNat)
    case atStart => exact ⟨0, by omega, rfl, by simp, Below.refl _ _⟩
    case round =>
      obtain ⟨k, hk, rfl, hall, hbel⟩ := hrel
      have HA := Lib.hid hall
      clear hall
      by_cases hlt : k < l
      · have HLT := Lib.hid (show k < xss.length by rw [← HL.out]; exact hlt)
        obtain ⟨ad, Am, lm, cm, rfl, hb, hc0, hlm, hcm, hpoly⟩ := (h1.below hbel).at_ HLT.out
        obtain ⟨ps, hx⟩ : ∃ x, xss.getD k [] = x := ⟨_, rfl⟩
        rw [hx] at hlm hpoly
        have HX := Lib.hid hx
        have HLM := Lib.hid hlm
        clear hx hlm
        go_wp2_with fail
        refine (poly_right Am lm cm ps wr (hpoly.more hbel.size) HLM.out).mono ?_
        rintro e w2 ⟨rfl, hb2⟩
        have hbel2 : Below w.heap.size w w2 := hbel.trans (hb2.mono hbel.size)
        cases hr : rightPoly ps with
        | true =>
          have HR := Lib.hid hr
          clear hr
          go_wp2_with fail
          exact ⟨⟨k + 1, by omega, by go_num, by rw [all_polys_succ HLT.out, HA.out, HX.out, HR.out]; rfl, hbel2⟩, by simp [intOf]; omega⟩
        | false =>
          have HR := Lib.hid hr
          clear hr
          have HE := Lib.hid (show mayE terms xss = 2 by unfold mayE; rw [if_neg (show ¬ terms < 0 by have := HN.out; omega), not_all_polys HLT.out (by rw [HX.out]; exact HR.out)]; rfl)
          go_wp2_with fail
          rw [HE.out]
          go_ret
          exact ⟨rfl, hbel2⟩
      · obtain rfl : k = l := by omega
        have HAll := Lib.hid (show xss.all rightPoly = true by have h := HA.out; rwa [List.take_of_length_le (by rw [HL.out]; omega)] at h)
        by_cases h4 : 4096 < terms
        · have HE := Lib.hid (show mayE terms xss = 3 by unfold mayE; rw [if_neg (show ¬ terms < 0 by have := HN.out; omega), HAll.out, if_pos rfl, if_pos h4])
          go_wp2_with fail
          rw [HE.out]
          go_ret
          exact ⟨rfl, hbel⟩
        · have HE := Lib.hid (show mayE terms xss = 0 by unfold mayE; rw [if_neg (show ¬ terms < 0 by have := HN.out; omega), HAll.out, if_pos rfl, if_neg h4])
          have h4' : terms ≤ 4096 := by omega
          clear h4
          go_wp2_with fail
          rw [HE.out]
          go_ret
          exact ⟨rfl, hbel⟩

/-- Is the number at this place nought? -/
def noughtAt (xs : List Raw) (k : Nat) : Bool := (xs.getD k (false, [])).2.length == 0
set_option maxRecDepth 100000 in
theorem series_nought (k : Nat) (A : Option Addr) (l c : Nat) (xs : List Raw) (w : World) {B : Nat} (h1 : Poly w B A xs) (hl : l = xs.length) :
    Calls Try.prog 61 #[.slice A l c, .int .i64 (k : Int)] w fun e w' => e = .returned (.bool (noughtAt xs k)) ∧ w = w' := by
  have HL := Lib.hid hl
  clear hl
  by_cases hk : k < l
  · obtain ⟨ad, Am, lm, cm, rfl, hb, hc0, hc1, hlm, hcm, hlim⟩ := h1.at_ (show k < xs.length by rw [← HL.out]; exact hk)
    have HE := Lib.hid (show noughtAt xs k = ((lm : Int) == 0) by unfold noughtAt; rw [← hlm]; cases lm <;> rfl)
    rw [HE.out]
    clear hlm hlim hc0
    have hkI : (k : Int) < (l : Int) := by omega
    go_enter Try.func61, Try.ntmps61
    go_wp2_with fail
    go_ret
    refine ⟨?_, rfl⟩
    show Ending.returned (.bool (decide (l ≤ k) || ((lm : Int) == 0))) = _
    rw [decide_eq_false (by omega)]; rfl
  · have HE := Lib.hid (show noughtAt xs k = true by unfold noughtAt; simp [show ¬ k < xs.length by rw [← HL.out]; exact hk])
    rw [HE.out]
    have hkI : (l : Int) ≤ (k : Int) := by omega
    clear hk
    go_enter Try.func61, Try.ntmps61
    go_wp2_with fail
    go_ret
    exact ⟨rfl, rfl⟩
/-- Is the number at this place 1 or -1? -/
def unitAt (xs : List Raw) (k : Nat) : Bool := (xs.getD k (false, [])).2.length == 1 && (xs.getD k (false, [])).2.getD 0 0 == 1
theorem int_beq (x y : Nat) : ((x : Int) == (y : Int)) = (x == y) := by
  by_cases h : x = y
  · subst h; simp
  · rw [beq_eq_false_iff_ne.2 h, beq_eq_false_iff_ne.2 (by omega)]
set_option maxRecDepth 100000 in
theorem series_unit (k : Nat) (A : Option Addr) (l c : Nat) (xs : List Raw) (w : World) {B : Nat} (h1 : Poly w B A xs) (hl : l = xs.length) :
    Calls Try.prog 51 #[.slice A l c, .int .i64 (k : Int)] w fun e w' => e = .returned (.bool (unitAt xs k)) ∧ w = w' := by
  have HL := Lib.hid hl
  clear hl
  by_cases hk : k < l
  · obtain ⟨ad, Am, lm, cm, rfl, hb, hc0, hc1, hlm, hcm, hlim⟩ := h1.at_ (show k < xs.length by rw [← HL.out]; exact hk)
    have hkI : (k : Int) < (l : Int) := by omega
    have td : decide (k < l) = true := decide_eq_true hk
    by_cases hone : lm = 1
    · subst hone
      obtain ⟨ad2, rfl, hb2, hx0⟩ := hlim.at_ (k := 0) (by omega)
      have HE := Lib.hid (show unitAt xs k = (((xs.getD k (false, [])).2.getD 0 0 : Int) == (1 : Nat)) by unfold unitAt; rw [← hlm, int_beq]; rfl)
      rw [HE.out]
      obtain ⟨x, hx⟩ : ∃ x, (xs.getD k (false, [])).2.getD 0 0 = x := ⟨_, rfl⟩
      rw [hx] at hx0 ⊢
      rw [show ad2.add 0 = ad2 by unfold Addr.add; simp] at hx0
      clear hlm hlim hc0 hx
      go_enter Try.func51, Try.ntmps51
      go_wp2_with fail
      go_ret
      exact ⟨rfl, rfl⟩
    · have HE := Lib.hid (show unitAt xs k = false by unfold unitAt; rw [← hlm, show (lm == 1) = false from beq_eq_false_iff_ne.2 hone]; rfl)
      rw [HE.out]
      have t1 : ((lm : Int) == 1) = false := beq_eq_false_iff_ne.2 (by omega)
      clear hlm hlim hc0 hone
      go_enter Try.func51, Try.ntmps51
      go_wp2_with fail
      go_ret
      exact ⟨rfl, rfl⟩
  · have HE := Lib.hid (show unitAt xs k = false by unfold unitAt; simp [show ¬ k < xs.length by rw [← HL.out]; exact hk])
    rw [HE.out]
    have hkI : (l : Int) ≤ (k : Int) := by omega
    have td : decide (k < l) = false := decide_eq_false hk
    clear hk
    go_enter Try.func51, Try.ntmps51
    go_wp2_with fail
    go_ret
    exact ⟨rfl, rfl⟩
end Go.Proofs.Ytmnfokapdipcdaa
