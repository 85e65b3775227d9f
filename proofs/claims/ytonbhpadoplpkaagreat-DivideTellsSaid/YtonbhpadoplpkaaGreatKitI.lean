import Derived.Test.YtonbhpadoplpkaaGreatLent
import Derived.Test.YtonbhpadoplpkaaGreatRef11
import Derived.Test.YtonbhpadoplpkaaGreatLimb3
import Derived.Test.YtonbhpadoplpkaaGreatDiv5
/- The package rosettekit: whole numbers. -/
namespace Go.Proofs.YtonbhpadoplpkaaGreat
open Go.RowKit Go.Deep
set_option maxRecDepth 100000 in
theorem kit_made (neg : Bool) (v : Value) (n : Nat) (w : World) (h : NatAt w v n) (hl : lc n ≤ 1099511627776) :
    Calls Tryz.prog 56 #[.bool neg, v] w fun e w' => ∃ u, e = .returned u ∧ IntV w' u (signed neg n) ∧ Below w.heap.size w w' := by
  have HH := Lib.hid h
  have HL := Lib.hid hl
  obtain ⟨A0, l0, c0, rfl, -, -, -, -⟩ := h.open
  clear h hl
  go_enter Tryz.func56, Tryz.ntmps56
  go_wp2_with fail
  obtain ⟨W0, g, hW, hg, bx, G_g, S_W0, hb⟩ := boxH w (.bool false) (.slice none 0 0)
  rw [hW, hg]
  replace HH := Lib.hid (HH.out.stay hb)
  have B_W0 := Lib.hid (show Since w W0 from hb)
  clear hW hg hb
  refine (nat_trim HH.out HL.out).mono ?_
  rintro e w1 ⟨r, rfl, hr, -, hb⟩
  obtain ⟨A, l, c, rfl, HE, HC, HLM, HN⟩ := hr.open
  replace bx := Lib.hid (bx.out.stay hb)
  replace B_W0 := Lib.hid (B_W0.out.stay hb)
  clear hr hb
  have a0 := bx.out.cell0
  have a1 := bx.out.cell1
  have fr := bx.out.free
  have HGG := Lib.hid (show w.heap.size ≤ g by have := G_g.out; omega)
  by_cases h0 : l = 0
  · subst h0
    have hz : n = 0 := limbs_eq_nil.1 (List.eq_nil_of_length_eq_zero HE.out.symm)
    have HZ := Lib.hid (show signed neg n = 0 by rw [hz]; cases neg <;> simp [signed])
    clear hz
    cases neg
    all_goals
      go_wp2_with fail
      refine bodyPost_ret (results_cell_row rfl _ _ g 24 #[.bool false, (.slice A 0 c)] (0, 0) _ (by rfl) bx.out.store Tryz.underlying24 rfl (by kernel_rfl)) rfl ?_
      obtain ⟨W2, hW2, bx', p⟩ := bx.out.write (.bool false) (.slice A 0 c)
      rw [hW2, HZ.out]
      exact ⟨_, rfl, ⟨A, 0, c, rfl, by rw [show (0 : Int).natAbs = 0 from rfl, limbs_zero]; rfl, HC.out, by rw [show (0 : Int).natAbs = 0 from rfl, limbs_zero]; exact Lim.nil _ _ _⟩, B_W0.out.put p HGG.out⟩
  · have hlI : (0 : Int) < (l : Int) := by omega
    have hlN : decide (0 < l) = true := decide_eq_true (by omega)
    have HNZ := Lib.hid (show n ≠ 0 by rintro rfl; rw [limbs_zero] at HE; exact h0 HE.out)
    clear h0
    cases neg
    case false =>
      go_wp2_with fail
      refine bodyPost_ret (results_cell_row rfl _ _ g 24 #[.bool false, (.slice A l c)] (0, 0) _ (by rfl) bx.out.store Tryz.underlying24 rfl (by kernel_rfl)) rfl ?_
      obtain ⟨W2, hW2, bx', p⟩ := bx.out.write (.bool false) (.slice A l c)
      rw [hW2]
      exact ⟨_, rfl, ⟨A, l, c, by simp [signed], by rw [signed_natAbs]; exact HE.out, HC.out, by rw [signed_natAbs]; exact HLM.out.put p⟩, B_W0.out.put p HGG.out⟩
    case true =>
      go_wp2_with fail
      refine bodyPost_ret (results_cell_row rfl _ _ g 24 #[.bool true, (.slice A l c)] (0, 0) _ (by rfl) bx.out.store Tryz.underlying24 rfl (by kernel_rfl)) rfl ?_
      obtain ⟨W2, hW2, bx', p⟩ := bx.out.write (.bool true) (.slice A l c)
      rw [hW2]
      exact ⟨_, rfl, ⟨A, l, c, by rw [signed_neg]; simp [HNZ.out], by rw [signed_natAbs]; exact HE.out, HC.out, by rw [signed_natAbs]; exact HLM.out.put p⟩, B_W0.out.put p HGG.out⟩
set_option maxRecDepth 100000 in
theorem kit_of (n : Int) (w : World) (h1 : -9223372036854775808 ≤ n) (h2 : n < 9223372036854775808) :
    Calls Tryz.prog 70 #[.int .i64 n] w fun e w' => ∃ v', e = .returned v' ∧ IntV w' v' n ∧ Below w.heap.size w w' := by
  by_cases hn : n < 0
  · obtain ⟨k, hk⟩ : ∃ k : Nat, n = -(k : Int) := ⟨n.natAbs, by omega⟩
    have HK := Lib.hid hk
    obtain ⟨r, e1, e2⟩ := wrap_minus (k := k) (by omega) (by omega)
    rw [← hk] at e1
    have HW := Lib.hid (show k < W64 by rw [W64_eq]; omega)
    have HSG := Lib.hid (show signed true k = n ∧ decide (n < 0) = true from ⟨by rw [hk]; rfl, decide_eq_true hn⟩)
    clear hk h1 h2
    go_enter Tryz.func70, Tryz.ntmps70
    go_wp2_with fail
    obtain ⟨W0, g, hW, hg, bx, G_g, S_W0, hb⟩ := boxH w (.bool false) (.slice none 0 0)
    rw [hW, hg]

    have B_W0 := Lib.hid (show Since w W0 from hb)
    clear hW hg hb
    refine (ref_of k W0 HW.out).mono ?_
    rintro e w1 ⟨v, rfl, ho, hb⟩
    obtain ⟨A, l, c, rfl, HE, HC, HLM, HN⟩ := (NatAt.of_own ho).open
    replace bx := Lib.hid (bx.out.stay hb)
    replace B_W0 := Lib.hid (B_W0.out.stay hb)
    clear ho hb
    have fr := bx.out.free
    have a0 := bx.out.cell0
    have a1 := bx.out.cell1
    have HGG := Lib.hid (show w.heap.size ≤ g by have := G_g.out; omega)
    go_wp2_with fail
    refine bodyPost_ret (results_cell_row rfl _ _ g 24 #[.bool true, (.slice A l c)] (0, 0) _ (by rfl) bx.out.store Tryz.underlying24 rfl (by kernel_rfl)) rfl ?_
    obtain ⟨W2, hW2, bx', p⟩ := bx.out.write (.bool true) (.slice A l c)
    rw [hW2]
    exact ⟨_, rfl, ⟨A, l, c, by rw [HSG.out.2], by rw [← HSG.out.1, signed_natAbs]; exact HE.out, HC.out, by rw [← HSG.out.1, signed_natAbs]; exact HLM.out.put p⟩, B_W0.out.put p HGG.out⟩
  · obtain ⟨k, hk⟩ : ∃ k : Nat, n = (k : Int) := ⟨n.natAbs, by omega⟩
    have e1 := wrap_plus (k := k) (by omega)
    subst hk
    have HW := Lib.hid (show k < W64 by rw [W64_eq]; omega)
    have HSG := Lib.hid (show signed false k = (k : Int) ∧ decide ((k : Int) < 0) = false from ⟨rfl, decide_eq_false hn⟩)
    clear h1 h2
    go_enter Tryz.func70, Tryz.ntmps70
    go_wp2_with fail
    obtain ⟨W0, g, hW, hg, bx, G_g, S_W0, hb⟩ := boxH w (.bool false) (.slice none 0 0)
    rw [hW, hg]

    have B_W0 := Lib.hid (show Since w W0 from hb)
    clear hW hg hb
    refine (ref_of k W0 HW.out).mono ?_
    rintro e w1 ⟨v, rfl, ho, hb⟩
    obtain ⟨A, l, c, rfl, HE, HC, HLM, HN⟩ := (NatAt.of_own ho).open
    replace bx := Lib.hid (bx.out.stay hb)
    replace B_W0 := Lib.hid (B_W0.out.stay hb)
    clear ho hb
    have fr := bx.out.free
    have a0 := bx.out.cell0
    have a1 := bx.out.cell1
    have HGG := Lib.hid (show w.heap.size ≤ g by have := G_g.out; omega)
    go_wp2_with fail
    refine bodyPost_ret (results_cell_row rfl _ _ g 24 #[.bool false, (.slice A l c)] (0, 0) _ (by rfl) bx.out.store Tryz.underlying24 rfl (by kernel_rfl)) rfl ?_
    obtain ⟨W2, hW2, bx', p⟩ := bx.out.write (.bool false) (.slice A l c)
    rw [hW2]
    exact ⟨_, rfl, ⟨A, l, c, by rw [HSG.out.2], by rw [← HSG.out.1, signed_natAbs]; exact HE.out, HC.out, by rw [← HSG.out.1, signed_natAbs]; exact HLM.out.put p⟩, B_W0.out.put p HGG.out⟩
set_option maxRecDepth 100000 in
theorem kit_zero (v : Value) (x : Raw) (w : World) (hv : RawV w v x) (hl : x.2.length ≤ 1099511627776) :
    Calls Tryz.prog 57 #[v] w fun e w' => e = .returned (.bool (decide (val x.2 = 0))) ∧ Below w.heap.size w w' := by
  obtain ⟨b1, A1, l1, c1, rfl, HV⟩ := hv.open
  have HL := Lib.hid hl
  have HP := Lib.hid HV.out.parts
  clear hv hl
  go_enter Tryz.func57, Tryz.ntmps57
  go_wp2_with fail
  obtain ⟨W0, g, hW, hg, bx, G_g, S_W0, hb⟩ := boxH w (.bool b1) (.slice A1 l1 c1)
  rw [hW, hg]
  replace HV := Lib.hid (HV.out.stay hb)
  have B_W0 := Lib.hid (show Since w W0 from hb)
  clear hW hg hb
  have a0 := bx.out.cell0
  have a1 := bx.out.cell1
  go_wp2_with fail
  refine (ref_bits A1 l1 c1 x.2 W0 HV.out.parts.2.2.2 HP.out.2.1 HP.out.2.2.1 (by have := HP.out.2.1; have := HL.out; omega)).mono ?_
  rintro e w1 ⟨rfl, hb⟩
  replace B_W0 := Lib.hid (B_W0.out.stay hb)
  obtain ⟨m, hm⟩ : ∃ m, nbits (val x.2) = m := ⟨_, rfl⟩
  rw [hm]
  have HZ := Lib.hid (show decide (val x.2 = 0) = ((m : Int) == 0) by
    have h : nbits (val x.2) ≤ 0 ↔ val x.2 < 2 ^ 0 := nbits_le
    rw [hm] at h
    by_cases h0 : val x.2 = 0
    · rw [decide_eq_true h0]
      have : m = 0 := by have := h.2 (by omega); omega
      rw [this]; rfl
    · rw [decide_eq_false h0]
      exact (beq_eq_false_iff_ne.2 (by intro h1; have := h.1 (by omega); omega)).symm)
  clear hm hb a0 a1
  go_wp2_with fail
  go_ret
  exact ⟨by rw [HZ.out]; rfl, B_W0.out⟩
set_option maxRecDepth 100000 in
theorem kit_right (v : Value) (x : Raw) (w : World) (hv : RawV w v x) :
    Calls Tryz.prog 68 #[v] w fun e w' => e = .returned (.bool (rightInt x)) ∧ Below w.heap.size w w' := by
  obtain ⟨A, l, c, rfl, hl, hc, h1⟩ := hv
  obtain ⟨b, xs⟩ := x
  simp only at hl h1 ⊢
  subst hl
  have hwo : Below w.heap.size w (w.alloc (.cells #[.bool b, .slice A xs.length c] 24)) := (Below.refl _ w).alloc (Nat.le_refl _) _
  by_cases h0 : xs.length = 0
  · obtain rfl := List.eq_nil_of_length_eq_zero h0
    have HE := Lib.hid (show rightInt (b, []) = !b by simp [rightInt])
    rw [HE.out]
    cases b
    all_goals
      go_enter Tryz.func68, Tryz.ntmps68
      go_wp2_with fail
      go_ret
      exact ⟨rfl, hwo⟩
  · have t0 : ((xs.length : Int) == 0) = false := beq_eq_false_iff_ne.2 (by omega)
    have hp : xs.length - 1 < xs.length := by omega
    by_cases h4 : xs.length ≤ 4096
    · have tI : (xs.length : Int) ≤ 4096 := by omega
      obtain ⟨ad, rfl, hb, hcell⟩ := (h1.below hwo).at_ hp
      obtain ⟨x, hx⟩ : ∃ x, xs.getD (xs.length - 1) 0 = x := ⟨_, rfl⟩
      rw [hx] at hcell
      have HE := Lib.hid (show rightInt (b, xs) = (x != 0) by
        have e0 : (xs.length == 0) = false := beq_eq_false_iff_ne.2 h0
        unfold rightInt
        simp only [e0, bne, hx, decide_eq_true h4, Bool.false_and, Bool.false_or, Bool.not_false, Bool.true_and])
      rw [HE.out]
      obtain ⟨m, hm⟩ : ∃ m, xs.length - 1 = m := ⟨_, rfl⟩
      have e1 : ((xs.length : Int) - 1) = (m : Int) := by omega
      have hml : (m : Int) < (xs.length : Int) := by omega
      rw [hm] at hcell
      clear h0 hp h4 hx hm
      go_enter Tryz.func68, Tryz.ntmps68
      go_wp2_with fail
      go_ret
      exact ⟨by rw [← int_bne]; rfl, hwo⟩
    · have tI : (4096 : Int) < (xs.length : Int) := by omega
      have HE := Lib.hid (show rightInt (b, xs) = false by simp [rightInt, h4]; intro h; exact absurd (by rw [h]; rfl) h0)
      rw [HE.out]
      clear h0 hp h4
      go_enter Tryz.func68, Tryz.ntmps68
      go_wp2_with fail
      go_ret
      exact ⟨rfl, hwo⟩
theorem results_recs {fn : Func} {p q : Tmp} {ty : TypeId} (h : fn.results = #[.cell p ty, .cell q ty]) (tmps : Array Value) (P : Program) (w : World) :
    (results fn tmps).run P w =
      ((asAddr (tmps.getD p undef)).run P w).andThen fun a w₁ => ((loadVar ty a).run P w₁).andThen fun v w₂ => ((asAddr (tmps.getD q undef)).run P w₂).andThen fun b w₃ => ((loadVar ty b).run P w₃).andThen fun x w₄ => .ok (.tuple #[v, x]) w₄ := by
  simp only [results, h]
  simp [Sem.run_bind, Result.andThen]
theorem two_stores {w : World} {r q : Nat} {b1 b2 : Bool} {A1 A2 : Option Addr} {l1 c1 l2 c2 : Nat} (h1 : Box2 w r (.bool b1) (.slice A1 l1 c1)) (h2 : Box2 w q (.bool b2) (.slice A2 l2 c2)) (hne : r ≠ q) (x y x' y' : Value) :
    ∃ W, ((((w.setCell ⟨r, 0, none⟩ x).setCell ⟨r, 1, none⟩ y).setCell ⟨q, 0, none⟩ x').setCell ⟨q, 1, none⟩ y') = W ∧ Box2 W r x y ∧ Box2 W q x' y' ∧ (∀ {v : Value} {z : Int}, IntV w v z → IntV W v z) ∧ (∀ {w0 : World}, Since w0 w → w0.heap.size ≤ r → w0.heap.size ≤ q → Since w0 W) := by
  obtain ⟨Wa, hWa, ba, pa⟩ := h1.write x y
  have bqa := h2.put pa (fun e => hne e.symm)
  obtain ⟨Wb, hWb, bb, pb⟩ := bqa.write x' y'
  rw [hWa, hWb]
  exact ⟨Wb, rfl, ba.out.put pb hne, bb.out, fun h => (h.put pa).put pb, fun h k1 k2 => (h.put pa k1).put pb k2⟩
theorem floor_same {x y : Int} (h0 : y ≠ 0) (hs : decide (x < 0) = decide (y < 0)) : signed false (x.natAbs / y.natAbs) = x.fdiv y ∧ signed (decide (x < 0)) (x.natAbs % y.natAbs) = x.fmod y := by
  rcases floor_case x y h0 with ⟨_, h, _, _⟩ | ⟨_, h1, h2⟩
  · exact absurd hs h
  · have h3 := signed_quo x y
    rw [hs] at h3
    have e : (!(decide (y < 0) == decide (y < 0))) = false := by simp
    rw [e] at h3
    exact ⟨by rw [h1]; exact h3, by rw [h2]; exact signed_rem x y⟩
theorem floor_even {x y : Int} (h0 : y ≠ 0) (hs : decide (x < 0) ≠ decide (y < 0)) (hz : x.natAbs % y.natAbs = 0) : signed true (x.natAbs / y.natAbs) = x.fdiv y ∧ x.fmod y = 0 := by
  have hm : x.tmod y = 0 := by
    have := Int.natAbs_tmod x y
    omega
  have h3 := signed_quo x y
  have e : (!(decide (x < 0) == decide (y < 0))) = true := by simpa using hs
  rw [e] at h3
  rcases floor_case x y h0 with ⟨h, _⟩ | ⟨_, h1, h2⟩
  · exact absurd hm h
  · exact ⟨by rw [h1]; exact h3, by rw [h2]; exact hm⟩
theorem floor_odd {x y : Int} (h0 : y ≠ 0) (hs : decide (x < 0) ≠ decide (y < 0)) (hz : x.natAbs % y.natAbs ≠ 0) : signed true (x.natAbs / y.natAbs + 1) = x.fdiv y ∧ signed (decide (y < 0)) (y.natAbs - x.natAbs % y.natAbs) = x.fmod y := by
  have hm : x.tmod y ≠ 0 := by
    have := Int.natAbs_tmod x y
    omega
  have h3 := signed_quo x y
  have e : (!(decide (x < 0) == decide (y < 0))) = true := by simpa using hs
  rw [e] at h3
  have h4 := signed_rem x y
  have hlt : x.natAbs % y.natAbs < y.natAbs := Nat.mod_lt _ (by omega)
  rcases floor_case x y h0 with ⟨_, _, h1, h2⟩ | ⟨h | h, _⟩
  · refine ⟨by rw [h1, ← h3]; simp [signed]; omega, ?_⟩
    rw [h2, ← h4]
    by_cases hx : x < 0
    · have hy : ¬ y < 0 := fun hy => hs (by rw [decide_eq_true hx, decide_eq_true hy])
      rw [decide_eq_true hx, decide_eq_false hy]; simp [signed]; omega
    · have hy : y < 0 := by
        rcases Decidable.em (y < 0) with hy | hy
        · exact hy
        · exact absurd (by rw [decide_eq_false hx, decide_eq_false hy]) hs
      rw [decide_eq_false hx, decide_eq_true hy]; simp [signed]; omega
  · exact absurd h hm
  · exact absurd h hs
set_option maxHeartbeats 1000000 in
set_option maxRecDepth 100000 in
theorem kit_floor (u v : Value) (x y : Int) (w : World) (hu : IntV w u x) (hv : IntV w v y) (lx : lc x.natAbs ≤ 1073741824) (ly : lc y.natAbs ≤ 1073741824) (h0 : y ≠ 0) :
    Calls Tryz.prog 54 #[u, v] w fun e w' => ∃ p q, e = .returned (.tuple #[p, q]) ∧ IntV w' p (x.fdiv y) ∧ IntV w' q (x.fmod y) ∧ Below w.heap.size w w' := by
  obtain ⟨b1, A1, l1, c1, rfl, HU⟩ := hu.open
  obtain ⟨b2, A2, l2, c2, rfl, HV⟩ := hv.open
  have HP1 := Lib.hid HU.out.parts
  have HP2 := Lib.hid HV.out.parts
  have HLX := Lib.hid lx
  have HLY := Lib.hid ly
  have H0 := Lib.hid h0
  clear hu hv lx ly h0
  go_enter Tryz.func54, Tryz.ntmps54
  go_wp2_with fail
  obtain ⟨W0, g, h, r, q, hW, hg, hh, hr, hq, bx, by_, br, bq, G_g, S_W0, hb⟩ := boxH4 w (.bool b1) (.slice A1 l1 c1) (.bool b2) (.slice A2 l2 c2) (.bool false) (.slice none 0 0) (.bool false) (.slice none 0 0)
  rw [hW, hq, hr, hh, hg]
  replace HU := Lib.hid (HU.out.stay hb)
  replace HV := Lib.hid (HV.out.stay hb)
  have B_W0 := Lib.hid (show Since w W0 from hb)
  clear hW hg hh hr hq hb
  have HNX := Lib.hid (show NatAt W0 (.slice A1 l1 c1) x.natAbs from ⟨_, _, _, rfl, HP1.out.2.1, HP1.out.2.2.1, HU.out.parts.2.2.2⟩)
  have HNY := Lib.hid (show NatAt W0 (.slice A2 l2 c2) y.natAbs from ⟨_, _, _, rfl, HP2.out.2.1, HP2.out.2.2.1, HV.out.parts.2.2.2⟩)
  have a0 := bx.out.cell0
  have a1 := bx.out.cell1
  have k0 := by_.out.cell0
  have k1 := by_.out.cell1
  go_wp2_with fail
  refine (nat_div _ _ _ _ W0 HNX.out HNY.out (by have := HLX.out; omega) (by have := HLY.out; omega) (by have := H0.out; omega)).mono ?_
  rintro e w1 ⟨uq, ur, rfl, hq, hr, hb⟩
  have HLQ := Lib.hid (show lc (x.natAbs / y.natAbs) ≤ 1073741824 ∧ lc (x.natAbs % y.natAbs) ≤ 1073741824 from ⟨Nat.le_trans (lc_mono (Nat.div_le_self _ _)) HLX.out, Nat.le_trans (lc_mono (Nat.mod_le _ _)) HLX.out⟩)
  obtain ⟨Aq, lq, cq, rfl, -, -, -, HQ⟩ := hq.open
  obtain ⟨Ar, lr, cr, rfl, -, -, -, HR⟩ := hr.open
  clear hq hr a0 a1 k0 k1 HU HV HNX
  replace HNY := Lib.hid (HNY.out.stay hb)
  replace bx := Lib.hid (bx.out.stay hb)
  replace by_ := Lib.hid (by_.out.stay hb)
  replace br := Lib.hid (br.out.stay hb)
  replace bq := Lib.hid (bq.out.stay hb)
  replace B_W0 := Lib.hid (B_W0.out.stay hb)
  clear hb
  by_cases hs : decide (x < 0) = decide (y < 0)
  · have HF := Lib.hid (floor_same H0.out hs)
    obtain rfl : b1 = b2 := by rw [HP1.out.1, HP2.out.1]; exact hs
    clear hs
    have a0 := bx.out.cell0
    have a1 := bx.out.cell1
    have k0 := by_.out.cell0
    have k1 := by_.out.cell1
    go_upto_region 3 with (fail)
    clear a0 a1 k0 k1
    have a0 := later_cell bx.out.cell0
    have a1 := later_cell bx.out.cell1
    refine wp_region_stages (fun w' => ∃ δ : Later Nix w1, w' = δ.world) [(false, 0), (false, 2), (false, 3), (false, 4), (true, 1)] 5 [.reads [_, _, _, _], .loud _] [_, _, _] (by kernel_rfl) (by kernel_rfl) rfl rfl ?_ ?_
    · exact ⟨⟨_, nix_drawn w1⟩, rfl⟩
    refine wpStages_reads ?_
    repeat (go_big_quiet_step (fail))
    refine wpQuiet_nil ?_
    refine wpStages_loud rfl ?_
    intro K hK
    go_big_op
    clear a0 a1
    have ex : Ext Nix w1 (w1.drewN 1) := nix_drawn w1
    have hb : Below w1.heap.size w1 (w1.drewN 1) := below_drewN (Below.refl _ _) 1
    replace HQ := Lib.hid (HQ.out.stay hb)
    replace HR := Lib.hid (HR.out.stay hb)
    replace br := Lib.hid (br.out.stay hb)
    replace bq := Lib.hid (bq.out.stay hb)
    replace B_W0 := Lib.hid (B_W0.out.stay hb)
    clear hb
    refine ((kit_made false _ _ _ HQ.out (Nat.le_trans HLQ.out.1 (by omega)))).mono ?_
    rintro e w2 ⟨p1, rfl, hp, hb⟩
    replace ex : Ext Nix w1 w2 := ex.later (Ext.of_below hb)
    replace HR := Lib.hid (HR.out.stay hb)
    replace br := Lib.hid (br.out.stay hb)
    replace bq := Lib.hid (bq.out.stay hb)
    replace B_W0 := Lib.hid (B_W0.out.stay hb)
    clear hb
    refine hK _ _ ⟨⟨_, ex⟩, rfl⟩ ?_
    clear hK K
    obtain ⟨bu, Au, lu, cu, rfl, HU⟩ := hp.open
    clear hp
    refine wpStages_nil ?_
    go_wp2_with fail
    refine (kit_made b1 _ _ _ HR.out (Nat.le_trans HLQ.out.2 (by omega))).mono ?_
    rintro e w3 ⟨p2, rfl, hp, hb⟩
    obtain ⟨bv, Av, lv, cv, rfl, HV⟩ := hp.open
    replace HU := Lib.hid (HU.out.stay hb)
    replace br := Lib.hid (br.out.stay hb)
    replace bq := Lib.hid (bq.out.stay hb)
    replace B_W0 := Lib.hid (B_W0.out.stay hb)
    clear hb hp
    rw [HF.out.1] at HU
    rw [HP1.out.1, HF.out.2] at HV
    have hne : ¬ r = q := by have := G_g.out; omega
    have HGG := Lib.hid (show w.heap.size ≤ r ∧ w.heap.size ≤ q by have := G_g.out; omega)
    have c0 := br.out.cell0
    have c1' := br.out.cell1
    have f0 := br.out.free 0
    have f1 := br.out.free 1
    have d0 := bq.out.cell0
    have d1 := bq.out.cell1
    have g0 := bq.out.free 0
    have g1 := bq.out.free 1
    have hTW := two_stores br.out bq.out (fun e => hne e) (.bool bu) (.slice Au lu cu) (.bool bv) (.slice Av lv cv)
    have HTW := Lib.hid hTW
    clear hTW
    go_wp2_with fail
    obtain ⟨Wt, hWt, bt1, bt2, pt1, pt2⟩ := HTW.out
    rw [hWt]
    refine bodyPost_ret (v := .tuple #[.agg #[.bool bu, (.slice Au lu cu)], .agg #[.bool bv, (.slice Av lv cv)]]) (by
      rw [results_recs rfl]
      have hld := run_loadVar_row (P := Tryz.prog) _ r 24 24 #[.bool bu, (.slice Au lu cu)] (0, 0) _ bt1 Tryz.underlying24 rfl (by kernel_rfl)
      have hld2 := run_loadVar_row (P := Tryz.prog) _ q 24 24 #[.bool bv, (.slice Av lv cv)] (0, 0) _ bt2 Tryz.underlying24 rfl (by kernel_rfl)
      simp [asAddr, Result.andThen, hld, hld2]) rfl ?_
    exact ⟨_, _, rfl, pt1 HU.out, pt1 HV.out, pt2 B_W0.out HGG.out.1 HGG.out.2⟩
  · obtain rfl : b2 = !b1 := by
      rw [HP1.out.1, HP2.out.1]
      cases hx : decide (x < 0) <;> cases hy : decide (y < 0) <;> first | rfl | (exact absurd (by rw [hx, hy]) hs)
    have HS := Lib.hid hs
    clear hs
    have a0 := bx.out.cell0
    have a1 := bx.out.cell1
    have k0 := by_.out.cell0
    have k1 := by_.out.cell1
    go_upto_region 4 with (fail)
    clear a0 a1 k0 k1
    go_wp2_with fail
    refine (nat_bits HR.out (Nat.le_trans HLQ.out.2 (by omega))).mono ?_
    rintro e w2 ⟨rfl, hb⟩
    obtain ⟨m, hm⟩ : ∃ m, nbits (x.natAbs % y.natAbs) = m := ⟨_, rfl⟩
    rw [hm]
    have HZ := Lib.hid (show x.natAbs % y.natAbs = 0 ↔ m = 0 by
      have h : nbits (x.natAbs % y.natAbs) ≤ 0 ↔ x.natAbs % y.natAbs < 2 ^ 0 := nbits_le
      rw [hm] at h
      omega)
    replace HQ := Lib.hid (HQ.out.stay hb)
    replace HR := Lib.hid (HR.out.stay hb)
    replace HNY := Lib.hid (HNY.out.stay hb)
    replace by_ := Lib.hid (by_.out.stay hb)
    replace br := Lib.hid (br.out.stay hb)
    replace bq := Lib.hid (bq.out.stay hb)
    replace B_W0 := Lib.hid (B_W0.out.stay hb)
    clear hm hb bx
    by_cases hm0 : m = 0
    · subst hm0
      have HF := Lib.hid (floor_even H0.out HS.out (HZ.out.2 rfl))
      go_wp2_with fail
      refine (kit_made true _ _ _ HQ.out (Nat.le_trans HLQ.out.1 (by omega))).mono ?_
      rintro e w3 ⟨p2, rfl, hp, hb⟩
      obtain ⟨bu, Au, lu, cu, rfl, HU⟩ := hp.open
      replace br := Lib.hid (br.out.stay hb)
      replace bq := Lib.hid (bq.out.stay hb)
      replace B_W0 := Lib.hid (B_W0.out.stay hb)
      clear hb hp
      rw [HF.out.1] at HU
      have HV := Lib.hid (show IntV w3 (.agg #[.bool false, .slice none 0 0]) (x.fmod y) by rw [HF.out.2]; exact ⟨none, 0, 0, rfl, by rw [show (0 : Int).natAbs = 0 from rfl, limbs_zero]; rfl, Nat.le_refl _, by rw [show (0 : Int).natAbs = 0 from rfl, limbs_zero]; exact Lim.nil _ _ _⟩)
      have hne : ¬ r = q := by have := G_g.out; omega
      have HGG := Lib.hid (show w.heap.size ≤ r ∧ w.heap.size ≤ q by have := G_g.out; omega)
      have c0 := br.out.cell0
      have c1' := br.out.cell1
      have f0 := br.out.free 0
      have f1 := br.out.free 1
      have d0 := bq.out.cell0
      have d1 := bq.out.cell1
      have g0 := bq.out.free 0
      have g1 := bq.out.free 1
      have hTW := two_stores br.out bq.out (fun e => hne e) (.bool bu) (.slice Au lu cu) (.bool false) (.slice none 0 0)
      have HTW := Lib.hid hTW
      clear hTW
      go_wp2_with fail
      obtain ⟨Wt, hWt, bt1, bt2, pt1, pt2⟩ := HTW.out
      rw [hWt]
      refine bodyPost_ret (v := .tuple #[.agg #[.bool bu, (.slice Au lu cu)], .agg #[.bool false, (.slice none 0 0)]]) (by
        rw [results_recs rfl]
        have hld := run_loadVar_row (P := Tryz.prog) _ r 24 24 #[.bool bu, (.slice Au lu cu)] (0, 0) _ bt1 Tryz.underlying24 rfl (by kernel_rfl)
        have hld2 := run_loadVar_row (P := Tryz.prog) _ q 24 24 #[.bool false, (.slice none 0 0)] (0, 0) _ bt2 Tryz.underlying24 rfl (by kernel_rfl)
        simp [asAddr, Result.andThen, hld, hld2]) rfl ?_
      exact ⟨_, _, rfl, pt1 HU.out, pt1 HV.out, pt2 B_W0.out HGG.out.1 HGG.out.2⟩
    · have hmI : ((m : Int) == 0) = false := beq_eq_false_iff_ne.2 (by omega)
      have HMZ := Lib.hid (show x.natAbs % y.natAbs ≠ 0 from fun h => hm0 (HZ.out.1 h))
      have HF := Lib.hid (floor_odd H0.out HS.out HMZ.out)
      have HLE := Lib.hid (show x.natAbs % y.natAbs ≤ y.natAbs from Nat.le_of_lt (Nat.mod_lt _ (by have := H0.out; omega)))
      clear hm0
      go_upto_region 6 with (fail)
      clear hmI
      have a0 := later_cell by_.out.cell0
      have a1 := later_cell by_.out.cell1
      refine wp_region_stages (fun w' => ∃ δ : Later Nix w2, w' = δ.world) [(false, 0), (false, 4), (false, 5), (false, 6), (false, 7), (false, 8), (true, 1), (true, 2), (true, 3), (true, 9)] 10 [.reads [_, _, _, _, _, _], .loud _, .loud _, .loud _, .loud _] [_, _, _] (by kernel_rfl) (by kernel_rfl) rfl rfl ?_ ?_
      · exact ⟨⟨_, nix_drawn w2⟩, rfl⟩
      refine wpStages_reads ?_
      repeat (go_big_quiet_step (fail))
      refine wpQuiet_nil ?_
      refine wpStages_loud rfl ?_
      intro K hK
      go_big_op
      clear a0 a1
      have ex : Ext Nix w2 (w2.drewN 1) := nix_drawn w2
      have hb : Below w2.heap.size w2 (w2.drewN 1) := below_drewN (Below.refl _ _) 1
      replace HQ := Lib.hid (HQ.out.stay hb)
      replace HR := Lib.hid (HR.out.stay hb)
      replace HNY := Lib.hid (HNY.out.stay hb)
      replace br := Lib.hid (br.out.stay hb)
      replace bq := Lib.hid (bq.out.stay hb)
      replace B_W0 := Lib.hid (B_W0.out.stay hb)
      clear hb
      refine ((ref_of 1 _ (by rw [W64_eq]; decide))).mono ?_
      rintro e w3 ⟨p1, rfl, hp, hb⟩
      replace ex : Ext Nix w2 w3 := ex.later (Ext.of_below hb)
      replace HQ := Lib.hid (HQ.out.stay hb)
      replace HR := Lib.hid (HR.out.stay hb)
      replace HNY := Lib.hid (HNY.out.stay hb)
      replace br := Lib.hid (br.out.stay hb)
      replace bq := Lib.hid (bq.out.stay hb)
      replace B_W0 := Lib.hid (B_W0.out.stay hb)
      clear hb
      refine hK _ _ ⟨⟨_, ex⟩, rfl⟩ ?_
      clear hK K
      have HONE := Lib.hid (NatAt.of_own hp)
      obtain ⟨A1', l1', c1', rfl, -, -, -, -⟩ := (NatAt.of_own hp).open
      clear hp
      refine wpStages_loud rfl ?_
      intro K hK
      go_big_op
      refine ((nat_add HQ.out HONE.out (Nat.le_trans HLQ.out.1 (by omega)) (Nat.le_trans (show lc 1 ≤ 1 from one_len) (by omega)))).mono ?_
      rintro e w4 ⟨p2, rfl, hp, -, hb⟩
      replace ex : Ext Nix w2 w4 := ex.later (Ext.of_below hb)
      replace HR := Lib.hid (HR.out.stay hb)
      replace HNY := Lib.hid (HNY.out.stay hb)
      replace br := Lib.hid (br.out.stay hb)
      replace bq := Lib.hid (bq.out.stay hb)
      replace B_W0 := Lib.hid (B_W0.out.stay hb)
      clear hb
      refine hK _ _ ⟨⟨_, ex⟩, rfl⟩ ?_
      clear hK K
      obtain ⟨A2', l2', c2', rfl, -, -, -, HSUM⟩ := hp.open
      clear hp HQ HONE
      refine wpStages_loud rfl ?_
      intro K hK
      go_big_op
      have HLS := Lib.hid (show lc (x.natAbs / y.natAbs + 1) ≤ 1099511627776 by have h1 := lc_add (x.natAbs / y.natAbs) 1; have h2 := HLQ.out.1; have h3 : lc 1 ≤ 1 := one_len; omega)
      refine ((kit_made true _ _ _ HSUM.out HLS.out)).mono ?_
      rintro e w5 ⟨p3, rfl, hp, hb⟩
      replace ex : Ext Nix w2 w5 := ex.later (Ext.of_below hb)
      replace HR := Lib.hid (HR.out.stay hb)
      replace HNY := Lib.hid (HNY.out.stay hb)
      replace br := Lib.hid (br.out.stay hb)
      replace bq := Lib.hid (bq.out.stay hb)
      replace B_W0 := Lib.hid (B_W0.out.stay hb)
      clear hb
      refine hK _ _ ⟨⟨_, ex⟩, rfl⟩ ?_
      clear hK K
      obtain ⟨bu, Au, lu, cu, rfl, HU⟩ := hp.open
      rw [HF.out.1] at HU
      clear hp HSUM
      refine wpStages_loud rfl ?_
      intro K hK
      go_big_op
      refine ((nat_sub HNY.out HR.out (Nat.le_trans HLY.out (by omega)) (Nat.le_trans HLQ.out.2 (by omega)) HLE.out)).mono ?_
      rintro e w6 ⟨p4, rfl, hp, -, hb⟩
      replace ex : Ext Nix w2 w6 := ex.later (Ext.of_below hb)
      replace HU := Lib.hid (HU.out.stay hb)
      replace br := Lib.hid (br.out.stay hb)
      replace bq := Lib.hid (bq.out.stay hb)
      replace B_W0 := Lib.hid (B_W0.out.stay hb)
      clear hb
      refine hK _ _ ⟨⟨_, ex⟩, rfl⟩ ?_
      clear hK K
      obtain ⟨A4, l4, c4, rfl, -, -, -, HDF⟩ := hp.open
      clear hp HR HNY
      refine wpStages_nil ?_
      go_wp2_with fail
      refine (kit_made (!b1) _ _ _ HDF.out (Nat.le_trans (lc_mono (Nat.sub_le _ _)) (Nat.le_trans HLY.out (by omega)))).mono ?_
      rintro e w7 ⟨p2, rfl, hp, hb⟩
      obtain ⟨bv, Av, lv, cv, rfl, HV⟩ := hp.open
      replace HU := Lib.hid (HU.out.stay hb)
      replace br := Lib.hid (br.out.stay hb)
      replace bq := Lib.hid (bq.out.stay hb)
      replace B_W0 := Lib.hid (B_W0.out.stay hb)
      clear hb hp
      rw [HP2.out.1, HF.out.2] at HV
      have hne : ¬ r = q := by have := G_g.out; omega
      have HGG := Lib.hid (show w.heap.size ≤ r ∧ w.heap.size ≤ q by have := G_g.out; omega)
      have c0 := br.out.cell0
      have c1' := br.out.cell1
      have f0 := br.out.free 0
      have f1 := br.out.free 1
      have d0 := bq.out.cell0
      have d1 := bq.out.cell1
      have g0 := bq.out.free 0
      have g1 := bq.out.free 1
      have hTW := two_stores br.out bq.out (fun e => hne e) (.bool bu) (.slice Au lu cu) (.bool bv) (.slice Av lv cv)
      have HTW := Lib.hid hTW
      clear hTW
      go_wp2_with fail
      obtain ⟨Wt, hWt, bt1, bt2, pt1, pt2⟩ := HTW.out
      rw [hWt]
      refine bodyPost_ret (v := .tuple #[.agg #[.bool bu, (.slice Au lu cu)], .agg #[.bool bv, (.slice Av lv cv)]]) (by
        rw [results_recs rfl]
        have hld := run_loadVar_row (P := Tryz.prog) _ r 24 24 #[.bool bu, (.slice Au lu cu)] (0, 0) _ bt1 Tryz.underlying24 rfl (by kernel_rfl)
        have hld2 := run_loadVar_row (P := Tryz.prog) _ q 24 24 #[.bool bv, (.slice Av lv cv)] (0, 0) _ bt2 Tryz.underlying24 rfl (by kernel_rfl)
        simp [asAddr, Result.andThen, hld, hld2]) rfl ?_
      exact ⟨_, _, rfl, pt1 HU.out, pt1 HV.out, pt2 B_W0.out HGG.out.1 HGG.out.2⟩
end Go.Proofs.YtonbhpadoplpkaaGreat
