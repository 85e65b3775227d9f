import Derived.Test.YtmnfokapdipcdaaR24a
/- The package rosetteref24: right, unit, begin, Series, told, over. -/
namespace Go.Proofs.Ytmnfokapdipcdaa
open Go.RowKit Go.Deep
set_option maxRecDepth 100000 in
theorem r24_right (A : Option Addr) (l c : Nat) (xs : List Raw) (w : World) (h1 : Poly w w.heap.size A xs) (hl : l = xs.length) :
    Calls Try.prog 56 #[.slice A l c] w fun e w' => e = .returned (.bool (rightPoly xs)) ∧ Below w.heap.size w w' := by
  by_cases h4 : l ≤ 4096
  · have tI : (l : Int) ≤ 4096 := by omega
    have HL := Lib.hid hl
    have H4 := Lib.hid h4
    clear hl h4
    go_enter Try.func56, Try.ntmps56
    go_wp2_with fail
    go_loopw [3] (fun t3 wr => ∃ k : Nat, k ≤ l ∧ t3 = .int .i64 (k : Int) ∧ (xs.take k).all rightInt = true ∧ Below w.heap.size w wr) (fun t3 _ => l - (intOf t3).toNat)
    case atStart => exact ⟨0, by omega, rfl, by simp, Below.refl _ _⟩
    case round =>
      obtain ⟨k, hk, rfl, hall, hbel⟩ := hrel
      have HA := Lib.hid hall
      clear hall
      by_cases hlt : k < l
      · have HLT := Lib.hid (show k < xs.length by rw [← HL.out]; exact hlt)
        obtain ⟨ad, Am, lm, cm, rfl, hb, hc0, hc1, hlm, hcm, hlim⟩ := (h1.below hbel).at_ HLT.out
        obtain ⟨⟨b, ms⟩, hx⟩ : ∃ x, xs.getD k (false, []) = x := ⟨_, rfl⟩
        rw [hx] at hc0 hlm hlim
        have HX := Lib.hid hx
        have HLM := Lib.hid hlm
        clear hx hlm
        simp only at hc0
        go_wp2_with fail
        refine (ref_rightInt b Am lm cm ms wr (B := w.heap.size) hbel.size hlim HLM.out).mono ?_
        rintro e w2 ⟨rfl, hb2⟩
        have hbel2 : Below w.heap.size w w2 := hbel.trans (hb2.mono hbel.size)
        cases hr : rightInt (b, ms) with
        | true =>
          have HR := Lib.hid hr
          clear hr
          go_wp2_with fail
          exact ⟨⟨k + 1, by omega, by go_num, by rw [all_take_succ HLT.out, HA.out, HX.out, HR.out]; rfl, hbel2⟩, by simp [intOf]; omega⟩
        | false =>
          have HR := Lib.hid hr
          clear hr
          have HE := Lib.hid (show rightPoly xs = false by unfold rightPoly; rw [not_all_of HLT.out (by rw [HX.out]; exact HR.out)]; simp)
          go_wp2_with fail
          rw [HE.out]
          go_ret
          exact ⟨rfl, hbel2⟩
      · obtain rfl : k = l := by omega
        have HAll := Lib.hid (show xs.all rightInt = true by have h := HA.out; rwa [List.take_of_length_le (by rw [HL.out]; omega)] at h)
        by_cases h0 : k = 0
        · subst h0
          have HE := Lib.hid (show rightPoly xs = true by
            have hx := List.eq_nil_of_length_eq_zero HL.out.symm
            rw [hx]; rfl)
          go_wp2_with fail
          rw [HE.out]
          go_ret
          exact ⟨rfl, hbel⟩
        · have t0 : ((k : Int) == 0) = false := beq_eq_false_iff_ne.2 (by omega)
          have HK := Lib.hid (show k - 1 < xs.length by rw [← HL.out]; omega)
          obtain ⟨ad, Am, lm, cm, rfl, hb, hc0, hc1, hlm, hcm, hlim⟩ := (h1.below hbel).at_ HK.out
          have HE := Lib.hid (show rightPoly xs = decide (0 < lm) by
            have h4 := H4.out
            unfold rightPoly
            rw [HAll.out, ← HL.out, decide_eq_true h4, ← hlm, show (k == 0) = false from beq_eq_false_iff_ne.2 h0]; simp)
          obtain ⟨m, hm⟩ : ∃ m, k - 1 = m := ⟨_, rfl⟩
          rw [hm] at hc1
          have e1 : ((k : Int) - 1) = (m : Int) := by omega
          have hml : (m : Int) < (k : Int) := by omega
          clear hc0 hlm hlim hm h0
          go_wp2_with fail
          rw [HE.out]
          go_ret
          exact ⟨by first | rfl | simp, hbel⟩
  · have tI : (4096 : Int) < (l : Int) := by omega
    have HE := Lib.hid (show rightPoly xs = false by unfold rightPoly; rw [decide_eq_false (by omega)]; rfl)
    rw [HE.out]
    clear hl h4
    go_enter Try.func56, Try.ntmps56
    go_wp2_with fail
    go_ret
    exact ⟨rfl, Below.refl _ _⟩
set_option maxRecDepth 100000 in
theorem r24_unit (k : Nat) (A : Option Addr) (l c : Nat) (xs : List Raw) (w : World) {B : Nat} (h1 : Poly w B A xs) (hl : l = xs.length) :
    Calls Try.prog 57 #[.slice A l c, .int .i64 (k : Int)] w fun e w' => e = .returned (.bool (unitAt xs k)) ∧ w = w' := by
  have HL := Lib.hid hl
  clear hl
  by_cases hk : k < l
  · obtain ⟨ad, Am, lm, cm, rfl, hb, hc0, hc1, hlm, hcm, hlim⟩ := h1.at_ (show k < xs.length by rw [← HL.out]; exact hk)
    have hkI : (k : Int) < (l : Int) := by omega
    have td : decide (k < l) = true := decide_eq_true hk
    by_cases hone : lm = 1
    · subst hone
      obtain ⟨ad2, rfl, hb2, hx0⟩ := hlim.at_ (k := 0) (by omega)
      have HE := Lib.hid (show unitAt xs k = (((xs.getD k (false, [])).2.getD 0 0 : Int) == (1 : Nat)) by unfold unitAt; rw [← hlm, int_beq]; rfl)
      rw [HE.out]
      obtain ⟨x, hx⟩ : ∃ x, (xs.getD k (false, [])).2.getD 0 0 = x := ⟨_, rfl⟩
      rw [hx] at hx0 ⊢
      rw [show ad2.add 0 = ad2 by unfold Addr.add; simp] at hx0
      clear hlm hlim hc0 hx
      go_enter Try.func57, Try.ntmps57
      go_wp2_with fail
      go_ret
      exact ⟨rfl, rfl⟩
    · have HE := Lib.hid (show unitAt xs k = false by unfold unitAt; rw [← hlm, show (lm == 1) = false from beq_eq_false_iff_ne.2 hone]; rfl)
      rw [HE.out]
      have t1 : ((lm : Int) == 1) = false := beq_eq_false_iff_ne.2 (by omega)
      clear hlm hlim hc0 hone
      go_enter Try.func57, Try.ntmps57
      go_wp2_with fail
      go_ret
      exact ⟨rfl, rfl⟩
  · have HE := Lib.hid (show unitAt xs k = false by unfold unitAt; simp [show ¬ k < xs.length by rw [← HL.out]; exact hk])
    rw [HE.out]
    have hkI : (l : Int) ≤ (k : Int) := by omega
    have td : decide (k < l) = false := decide_eq_false hk
    clear hk
    go_enter Try.func57, Try.ntmps57
    go_wp2_with fail
    go_ret
    exact ⟨rfl, rfl⟩
/-- What is refused first. -/
def beginE (terms : Int) (ok : Bool) : Int := if ok = false ∨ terms < 0 then 2 else if 4096 < terms then 3 else 0
set_option maxRecDepth 100000 in
theorem r24_begin (terms : Int) (ok : Bool) (w : World) :
    Calls Try.prog 55 #[.int .i64 terms, .bool ok] w fun e w' => e = .returned (.int .i64 (beginE terms ok)) ∧ w = w' := by
  cases ok with
  | false =>
    have HE := Lib.hid (show beginE terms false = 2 by unfold beginE; rw [if_pos (.inl rfl)])
    rw [HE.out]
    go_enter Try.func55, Try.ntmps55
    go_wp2_with fail
    go_ret
    exact ⟨rfl, rfl⟩
  | true =>
    by_cases hn : terms < 0
    · have HE := Lib.hid (show beginE terms true = 2 by unfold beginE; rw [if_pos (.inr hn)])
      rw [HE.out]
      go_enter Try.func55, Try.ntmps55
      go_wp2_with fail
      go_ret
      exact ⟨rfl, rfl⟩
    · by_cases h4 : 4096 < terms
      · have HE := Lib.hid (show beginE terms true = 3 by unfold beginE; rw [if_neg (by simp; omega), if_pos h4])
        rw [HE.out]
        have hn' : 0 ≤ terms := by omega
        clear hn
        go_enter Try.func55, Try.ntmps55
        go_wp2_with fail
        go_ret
        exact ⟨rfl, rfl⟩
      · have HE := Lib.hid (show beginE terms true = 0 by unfold beginE; rw [if_neg (by simp; omega), if_neg h4])
        rw [HE.out]
        have hn' : 0 ≤ terms := by omega
        have h4' : terms ≤ 4096 := by omega
        clear hn h4
        go_enter Try.func55, Try.ntmps55
        go_wp2_with fail
        go_ret
        exact ⟨rfl, rfl⟩
/-- The first n numbers. -/
def firstZ (z : Nat → Int) (n : Nat) : List Int := (List.range n).map z
theorem firstZ_len (z : Nat → Int) (n : Nat) : (firstZ z n).length = n := by simp [firstZ]
theorem firstZ_get (z : Nat → Int) {n i : Nat} (h : i < n) : (firstZ z n).getD i 0 = z i := by simp [firstZ, h]
theorem firstZ_succ (z : Nat → Int) (n : Nat) : firstZ z (n + 1) = firstZ z n ++ [z n] := by unfold firstZ; rw [List.range_succ, List.map_append]; rfl
theorem firstZ_congr {z z' : Nat → Int} {n : Nat} (h : ∀ i, i < n → z i = z' i) : firstZ z n = firstZ z' n := by
  unfold firstZ
  exact List.map_congr_left fun i hi => h i (List.mem_range.1 hi)
theorem zAt_past {xs : List Raw} {k : Nat} (h : xs.length ≤ k) : zAt xs k = 0 := by
  unfold zAt
  rw [show xs.getD k (false, []) = (false, []) by simp [show xs[k]? = none from List.getElem?_eq_none h]]
  rfl
set_option maxHeartbeats 400000 in
set_option maxRecDepth 100000 in
theorem r24_Series (A : Option Addr) (l c n : Nat) (xs : List Raw) (w : World) (h1 : Poly w w.heap.size A xs) (hl : l = xs.length) (hn : n ≤ 4096) (hsm : ∀ x ∈ xs, x.2.length ≤ 137438953472) :
    Calls Try.prog 60 #[.slice A l c, .int .i64 (n : Int)] w fun e w' => ∃ v, e = .returned v ∧ NRow w' w.heap.size v (firstZ (zAt xs) n) ∧ Below w.heap.size w w' := by
  have HL := Lib.hid hl
  have HSM := Lib.hid hsm
  have hnI : (n : Int) ≤ 4096 := by omega
  clear hl hsm hn
  go_enter Try.func60, Try.ntmps60
  go_wp2_with fail
  go_loopg [5, 6] n (fun gk t5 t6 wr => ∃ k : Nat, k + gk = n ∧ t6 = .int .i64 (k : Int) ∧ NRow wr w.heap.size t5 (firstZ (zAt xs) k) ∧ Below w.heap.size w wr)
  case atStart => exact ⟨0, by omega, rfl, NRow.nil _ _, Below.refl _ _⟩
  case round =>
    obtain ⟨k, hk, rfl, hrow, hbel⟩ := hrel
    obtain ⟨A5, c5, hv5, hc5⟩ := hrow.form
    rw [firstZ_len] at hv5
    by_cases hlt : k < n
    · have hltI : (k : Int) < (n : Int) := by omega
      have HK := Lib.hid hk
      clear hk hc5 hv5
      go_wp2_with fail
      refine (num_whole 0 wr (by omega)).mono ?_
      rintro e w1 ⟨v1, rfl, hz1, hb1⟩
      obtain ⟨b1, A1, l1, c1, rfl, hdum⟩ := id hz1
      clear hdum
      go_upto_region 6 with (fail)
      have hbx : Box3 (w1.alloc (.cells #[.bool b1, .slice A1 l1 c1, .int .i64 0] 79)) w1.heap.size 79 (.bool b1) (.slice A1 l1 c1) (.int .i64 0) := heap_alloc_new w1 _
      have hb1' : Below w1.heap.size w1 (w1.alloc (.cells #[.bool b1, .slice A1 l1 c1, .int .i64 0] 79)) := (Below.refl _ _).alloc (Nat.le_refl _) _
      have hbr : Below wr.heap.size wr (w1.alloc (.cells #[.bool b1, .slice A1 l1 c1, .int .i64 0] 79)) := hb1.trans (hb1'.mono hb1.size)
      have hzW := hz1.below hb1'
      have HB0 := Lib.hid hb1.size
      generalize w1.heap.size = B0 at hbx HB0 ⊢
      generalize w1.alloc (.cells #[.bool b1, .slice A1 l1 c1, .int .i64 0] 79) = W0 at hbx hbr hzW ⊢
      clear hz1 hb1 hb1'
      go_upto_if 17 with (fail)
      go_cut [] (fun wx => ∃ (b : Bool) (u : Value), Box3 wx B0 79 (.bool b) u (.int .i64 0) ∧ NumAt wx (.agg #[.bool b, u, .int .i64 0]) (zAt xs k) ∧ Below wr.heap.size wr wx)
      case first =>
        by_cases hkl : k < l
        · have hklI : (k : Int) < (l : Int) := by omega
          have HKX := Lib.hid (show k < xs.length by rw [← HL.out]; exact hkl)
          obtain ⟨ad, Am, lm, cm, rfl, hb, hc0, hc1, hlm, hcm, hlim⟩ := (h1.below (hbel.trans (hbr.mono hbel.size))).at_ HKX.out
          have hms := HSM.out _ (getD_raw_mem HKX.out)
          obtain ⟨⟨b, ms⟩, hx⟩ : ∃ x, xs.getD k (false, []) = x := ⟨_, rfl⟩
          rw [hx] at hc0 hlm hlim hms
          simp only at hc0
          have HV := Lib.hid (show zAt xs k = signed b (val ms) by unfold zAt; rw [hx])
          have HLM := Lib.hid hlm
          have HCM := Lib.hid hcm
          have HMS := Lib.hid (show lm ≤ 137438953472 by rw [hlm]; exact hms)
          have hszW := Nat.le_trans hbel.size hbr.size
          clear hx hlm hcm hms hkl
          go_wp2_with fail
          refine (num_int b Am lm cm ms W0 (hlim.more hszW) HLM.out HCM.out HMS.out).mono ?_
          rintro e w2 ⟨v2, rfl, hz2, hb2⟩
          obtain ⟨b2, A2, l2, c2, rfl, hdum⟩ := id hz2
          clear hdum
          have hbx2 := hbx.below hb2 hbx.lt
          have d0 := hbx2.cell0
          have d1 := hbx2.cell1
          have d2 := hbx2.cell2
          have f0 := hbx2.free
          go_wp2_with fail
          go_meet
          have hst := hbx2.store (a := .bool b2) (b := .slice A2 l2 c2) (c := .int .i64 0)
          have hz3 := hz2.store3 (a := .bool b2) (b := .slice A2 l2 c2) (c := .int .i64 0) hbx2 (fun k h => by cases h) (fun k h => by cases h) (fun k h => by cases h)
          have hb3 := store3_below (a := .bool b2) (b := .slice A2 l2 c2) (c := .int .i64 0) (hbr.trans (hb2.mono hbr.size)) HB0.out
          rw [← HV.out] at hz3
          exact ⟨b2, _, hst, hz3, hb3⟩
        · have hklI : (l : Int) ≤ (k : Int) := by omega
          have HV := Lib.hid (show zAt xs k = ((0 : Nat) : Int) from zAt_past (by rw [← HL.out]; omega))
          clear hkl
          go_wp2_with fail
          go_meet
          rw [← HV.out] at hzW
          exact ⟨b1, _, hbx, hzW, hbr⟩
      case rest =>
        obtain ⟨b, u, hbx2, hz2, hbr2⟩ := hcut
        have hrow2 := hrow.below hbr2
        have hbel2 := hbel.trans (hbr2.mono hbel.size)
        have d0 := hbx2.cell0
        have d1 := hbx2.cell1
        have d2 := hbx2.cell2
        have HLE := Lib.hid (show (firstZ (zAt xs) k).length ≤ 1000000 by rw [firstZ_len]; omega)
        have hz2' := hz2
        obtain ⟨b', A', l', c', e', hdum⟩ := hz2'
        clear hdum
        have eu : u = .slice A' l' c' := by
          have h1 := congrArg (fun v : Value => match v with | .agg cs => cs[1]? | _ => none) e'
          simpa using h1
        subst eu
        clear e' hbx hbr hzW hbx2
        go_wp2_with (at_builtin; refine append_num (w0 := w) w.heap.size rfl _ _ rfl _ (firstZ (zAt xs) k) b (.slice A' l' c') (zAt xs k) (by rfl) (by rfl) hrow2 hz2 hbel2 hbel2.size HLE.out ?_)
        intro v1 w4 hr4 hb4
        rw [← firstZ_succ] at hr4
        have hk := HK.out
        go_wp2_with fail
        go_roundg (gk - 1)
        case measure => omega
        case rel => exact ⟨k + 1, by omega, by go_num, hr4, hb4⟩
    · have hltI : (n : Int) ≤ (k : Int) := by omega
      obtain rfl : k = n := by omega
      clear hv5 hc5 hk
      go_wp2_with fail
      go_ret
      exact ⟨_, rfl, hrow, hbel⟩
end Go.Proofs.Ytmnfokapdipcdaa
