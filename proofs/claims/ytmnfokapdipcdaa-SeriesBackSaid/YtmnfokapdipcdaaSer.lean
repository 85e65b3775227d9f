import Derived.Test.YtmnfokapdipcdaaPoly
/- The package series: may, nought, unit. -/
namespace Go.Proofs.Ytmnfokapdipcdaa
open Go.RowKit Go.Deep
/-- At the slice's address A stand slices of records. -/
structure Polys (w : World) (B : Nat) (A : Option Addr) (xss : List (List Raw)) : Prop where
  cells : 0 < xss.length → ∃ ad, A = some ad ∧ ad.block < B ∧ ∀ j, j < xss.length → ∃ (Am : Option Addr) (l c : Nat),
    w.cell? (ad.add j) = some (.slice Am l c) ∧ l = (xss.getD j []).length ∧ l ≤ c ∧ Poly w B Am (xss.getD j [])
theorem Polys.at_ {w : World} {B : Nat} {A : Option Addr} {xss : List (List Raw)} (h : Polys w B A xss) {k : Nat} (hk : k < xss.length) : ∃ ad Am l c, A = some ad ∧ ad.block < B ∧
    w.cell? (ad.add k) = some (.slice Am l c) ∧ l = (xss.getD k []).length ∧ l ≤ c ∧ Poly w B Am (xss.getD k []) := by
  obtain ⟨ad, e, hb, hc⟩ := h.cells (by omega)
  obtain ⟨Am, l, c, h1⟩ := hc k hk
  exact ⟨ad, Am, l, c, e, hb, h1⟩
theorem Polys.below {w w' : World} {B : Nat} {A : Option Addr} {xss : List (List Raw)} (h : Polys w B A xss) (hb : Below B w w') : Polys w' B A xss :=
  ⟨fun hn => by
    obtain ⟨ad, e, hB, hc⟩ := h.cells hn
    refine ⟨ad, e, hB, fun j hj => ?_⟩
    obtain ⟨Am, l, c, h1, h3, h4, h5⟩ := hc j hj
    exact ⟨Am, l, c, by rw [hb.cell (by rw [block_of_add]; exact hB)]; exact h1, h3, h4, h5.below hb⟩⟩

/-- What is refused ahead of all reckoning. -/
def mayE (terms : Int) (xss : List (List Raw)) : Int := if terms < 0 then 2 else if xss.all rightPoly then (if 4096 < terms then 3 else 0) else 2
theorem all_polys_succ {xss : List (List Raw)} {k : Nat} (hk : k < xss.length) : (xss.take (k + 1)).all rightPoly = ((xss.take k).all rightPoly && rightPoly (xss.getD k [])) := by
  have e : xss.getD k [] = xss[k] := by simp [hk]
  rw [List.take_succ_eq_append_getElem hk, List.all_append, e]; simp
theorem not_all_polys {xss : List (List Raw)} {k : Nat} (hk : k < xss.length) (h : rightPoly (xss.getD k []) = false) : xss.all rightPoly = false := by
  have e : xss.getD k [] = xss[k] := by simp [hk]
  rw [List.all_eq_false]
  exact ⟨xss[k], List.getElem_mem hk, by rw [← e, h]; simp⟩
set_option maxRecDepth 100000 in
theorem series_may (terms : Int) (A : Option Addr) (l c : Nat) (xss : List (List Raw)) (w : World) (h1 : Polys w w.heap.size A xss) (hl : l = xss.length) (hl4 : (l : Int) ≤ 4096) :
    Calls Try.prog 50 #[.int .i64 terms, .slice A l c] w fun e w' => e = .returned (.int .i64 (mayE terms xss)) ∧ Below w.heap.size w w' := by
  have HL := Lib.hid hl
  clear hl
  by_cases hneg : terms < 0
  · have HE := Lib.hid (show mayE terms xss = 2 by unfold mayE; rw [if_pos hneg])
    rw [HE.out]
    go_enter Try.func50, Try.ntmps50
    go_wp2_with fail
    go_ret
    exact ⟨rfl, Below.refl _ _⟩
  · have HN := Lib.hid hneg
    have tneg : 0 ≤ terms := by omega
    clear hneg
    go_enter Try.func50, Try.ntmps50
    go_wp2_with fail
    go_loopw [11] (fun t11 wr => ∃ k : Nat, k ≤ l ∧ t11 = .int .i64 (k : Int) ∧ (xss.take k).all rightPoly = true ∧ Below w.heap.size w wr) (fun t11 _ => l - (intOf t11).toNat)
    case atStart => exact ⟨0, by omega, rfl, by simp, Below.refl _ _⟩
    case round =>
      obtain ⟨k, hk, rfl, hall, hbel⟩ := hrel
      have HA := Lib.hid hall
      clear hall
      by_cases hlt : k < l
      · have HLT := Lib.hid (show k < xss.length by rw [← HL.out]; exact hlt)
        obtain ⟨ad, Am, lm, cm, rfl, hb, hc0, hlm, hcm, hpoly⟩ := (h1.below hbel).at_ HLT.out
        obtain ⟨ps, hx⟩ : ∃ x, xss.getD k [] = x := ⟨_, rfl⟩
        rw [hx] at hlm hpoly
        have HX := Lib.hid hx
        have HLM := Lib.hid hlm
        clear hx hlm
        go_wp2_with fail
        refine (poly_right Am lm cm ps wr (hpoly.more hbel.size) HLM.out).mono ?_
        rintro e w2 ⟨rfl, hb2⟩
        have hbel2 : Below w.heap.size w w2 := hbel.trans (hb2.mono hbel.size)
        cases hr : rightPoly ps with
        | true =>
          have HR := Lib.hid hr
          clear hr
          go_wp2_with fail
          exact ⟨⟨k + 1, by omega, by go_num, by rw [all_polys_succ HLT.out, HA.out, HX.out, HR.out]; rfl, hbel2⟩, by simp [intOf]; omega⟩
        | false =>
          have HR := Lib.hid hr
          clear hr
          have HE := Lib.hid (show mayE terms xss = 2 by unfold mayE; rw [if_neg (show ¬ terms < 0 by have := HN.out; omega), not_all_polys HLT.out (by rw [HX.out]; exact HR.out)]; rfl)
          go_wp2_with fail
          rw [HE.out]
          go_ret
          exact ⟨rfl, hbel2⟩
      · obtain rfl : k = l := by omega
        have HAll := Lib.hid (show xss.all rightPoly = true by have h := HA.out; rwa [List.take_of_length_le (by rw [HL.out]; omega)] at h)
        by_cases h4 : 4096 < terms
        · have HE := Lib.hid (show mayE terms xss = 3 by unfold mayE; rw [if_neg (show ¬ terms < 0 by have := HN.out; omega), HAll.out, if_pos rfl, if_pos h4])
          go_wp2_with fail
          rw [HE.out]
          go_ret
          exact ⟨rfl, hbel⟩
        · have HE := Lib.hid (show mayE terms xss = 0 by unfold mayE; rw [if_neg (show ¬ terms < 0 by have := HN.out; omega), HAll.out, if_pos rfl, if_neg h4])
          have h4' : terms ≤ 4096 := by omega
          clear h4
          go_wp2_with fail
          rw [HE.out]
          go_ret
          exact ⟨rfl, hbel⟩

/-- Is the number at this place nought? -/
def noughtAt (xs : List Raw) (k : Nat) : Bool := (xs.getD k (false, [])).2.length == 0
set_option maxRecDepth 100000 in
theorem series_nought (k : Nat) (A : Option Addr) (l c : Nat) (xs : List Raw) (w : World) {B : Nat} (h1 : Poly w B A xs) (hl : l = xs.length) :
    Calls Try.prog 61 #[.slice A l c, .int .i64 (k : Int)] w fun e w' => e = .returned (.bool (noughtAt xs k)) ∧ w = w' := by
  have HL := Lib.hid hl
  clear hl
  by_cases hk : k < l
  · obtain ⟨ad, Am, lm, cm, rfl, hb, hc0, hc1, hlm, hcm, hlim⟩ := h1.at_ (show k < xs.length by rw [← HL.out]; exact hk)
    have HE := Lib.hid (show noughtAt xs k = ((lm : Int) == 0) by unfold noughtAt; rw [← hlm]; cases lm <;> rfl)
    rw [HE.out]
    clear hlm hlim hc0
    have hkI : (k : Int) < (l : Int) := by omega
    go_enter Try.func61, Try.ntmps61
    go_wp2_with fail
    go_ret
    refine ⟨?_, rfl⟩
    show Ending.returned (.bool (decide (l ≤ k) || ((lm : Int) == 0))) = _
    rw [decide_eq_false (by omega)]; rfl
  · have HE := Lib.hid (show noughtAt xs k = true by unfold noughtAt; simp [show ¬ k < xs.length by rw [← HL.out]; exact hk])
    rw [HE.out]
    have hkI : (l : Int) ≤ (k : Int) := by omega
    clear hk
    go_enter Try.func61, Try.ntmps61
    go_wp2_with fail
    go_ret
    exact ⟨rfl, rfl⟩
/-- Is the number at this place 1 or -1? -/
def unitAt (xs : List Raw) (k : Nat) : Bool := (xs.getD k (false, [])).2.length == 1 && (xs.getD k (false, [])).2.getD 0 0 == 1
theorem int_beq (x y : Nat) : ((x : Int) == (y : Int)) = (x == y) := by
  by_cases h : x = y
  · subst h; simp
  · rw [beq_eq_false_iff_ne.2 h, beq_eq_false_iff_ne.2 (by omega)]
set_option maxRecDepth 100000 in
theorem series_unit (k : Nat) (A : Option Addr) (l c : Nat) (xs : List Raw) (w : World) {B : Nat} (h1 : Poly w B A xs) (hl : l = xs.length) :
    Calls Try.prog 51 #[.slice A l c, .int .i64 (k : Int)] w fun e w' => e = .returned (.bool (unitAt xs k)) ∧ w = w' := by
  have HL := Lib.hid hl
  clear hl
  by_cases hk : k < l
  · obtain ⟨ad, Am, lm, cm, rfl, hb, hc0, hc1, hlm, hcm, hlim⟩ := h1.at_ (show k < xs.length by rw [← HL.out]; exact hk)
    have hkI : (k : Int) < (l : Int) := by omega
    have td : decide (k < l) = true := decide_eq_true hk
    by_cases hone : lm = 1
    · subst hone
      obtain ⟨ad2, rfl, hb2, hx0⟩ := hlim.at_ (k := 0) (by omega)
      have HE := Lib.hid (show unitAt xs k = (((xs.getD k (false, [])).2.getD 0 0 : Int) == (1 : Nat)) by unfold unitAt; rw [← hlm, int_beq]; rfl)
      rw [HE.out]
      obtain ⟨x, hx⟩ : ∃ x, (xs.getD k (false, [])).2.getD 0 0 = x := ⟨_, rfl⟩
      rw [hx] at hx0 ⊢
      rw [show ad2.add 0 = ad2 by unfold Addr.add; simp] at hx0
      clear hlm hlim hc0 hx
      go_enter Try.func51, Try.ntmps51
      go_wp2_with fail
      go_ret
      exact ⟨rfl, rfl⟩
    · have HE := Lib.hid (show unitAt xs k = false by unfold unitAt; rw [← hlm, show (lm == 1) = false from beq_eq_false_iff_ne.2 hone]; rfl)
      rw [HE.out]
      have t1 : ((lm : Int) == 1) = false := beq_eq_false_iff_ne.2 (by omega)
      clear hlm hlim hc0 hone
      go_enter Try.func51, Try.ntmps51
      go_wp2_with fail
      go_ret
      exact ⟨rfl, rfl⟩
  · have HE := Lib.hid (show unitAt xs k = false by unfold unitAt; simp [show ¬ k < xs.length by rw [← HL.out]; exact hk])
    rw [HE.out]
    have hkI : (l : Int) ≤ (k : Int) := by omega
    have td : decide (k < l) = false := decide_eq_false hk
    clear hk
    go_enter Try.func51, Try.ntmps51
    go_wp2_with fail
    go_ret
    exact ⟨rfl, rfl⟩
end Go.Proofs.Ytmnfokapdipcdaa
