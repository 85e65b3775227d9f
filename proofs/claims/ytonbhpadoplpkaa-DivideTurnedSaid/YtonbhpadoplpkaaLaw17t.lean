import Derived.Test.YtonbhpadoplpkaaLaw17c
/- The law of layer 17: DivideTurned. -/
namespace Go.Proofs.Ytonbhpadoplpkaa
open Go.RowKit Go.Deep
theorem rawNeg {z : Int} : (rawOf z).2.length = (rawOf (-z)).2.length := by unfold rawOf; rw [Int.natAbs_neg]
theorem mod_pos {x y : Int} (h : 0 < y) : modR x y = rawOf (x.fmod y) := if_neg (by omega)
theorem modE_pos {y : Int} (h : 0 < y) : modE y = 0 := if_neg (by omega)
theorem fmod_sum {x u z : Int} : (x + u).fmod z = (x.fmod z + u.fmod z).fmod z := by rw [Int.add_fmod]
theorem fmod_prod {x u z : Int} : (x * u).fmod z = (x.fmod z * u.fmod z).fmod z := by rw [Int.mul_fmod]
theorem lc_abs {x : Int} {n k : Nat} (h : x.natAbs ≤ n) (hn : lc n ≤ k) : lc x.natAbs ≤ k := Nat.le_trans (lc_mono h) hn
theorem turned_sizes {X U Z : Int} (hX : lc X.natAbs ≤ 60) (hU : lc U.natAbs ≤ 60) (h0 : 0 < Z) (hZ : lc Z.natAbs ≤ 60) :
    lc (X.fmod Z).natAbs ≤ 60 ∧ lc (U.fmod Z).natAbs ≤ 60 ∧ lc (X + U).natAbs ≤ 4096 ∧ lc (X.fmod Z + U.fmod Z).natAbs ≤ 4096 ∧ lc (X * U).natAbs ≤ 4096 ∧ lc (X.fmod Z * U.fmod Z).natAbs ≤ 4096 ∧ (rawOf ((X + U).fmod Z)).2.length ≤ 1099511627776 ∧ (rawOf ((X * U).fmod Z)).2.length ≤ 1099511627776 := by
  have r : ∀ x : Int, lc (x.fmod Z).natAbs ≤ 60 := fun x => Nat.le_trans (lc_mono (Nat.le_of_lt (fmod_size x (by omega)))) hZ
  have s : ∀ x u : Int, lc x.natAbs ≤ 60 → lc u.natAbs ≤ 60 → lc (x + u).natAbs ≤ 4096 ∧ lc (x * u).natAbs ≤ 4096 := fun x u hx hu => by
    have h1 := lc_add x.natAbs u.natAbs
    have h2 := lc_mul x.natAbs u.natAbs
    refine ⟨Nat.le_trans (lc_mono (Int.natAbs_add_le x u)) (by omega), ?_⟩
    rw [Int.natAbs_mul]; omega
  exact ⟨r X, r U, (s X U hX hU).1, (s _ _ (r X) (r U)).1, (s X U hX hU).2, (s _ _ (r X) (r U)).2, Nat.le_trans (r _) (by omega), Nat.le_trans (r _) (by omega)⟩
theorem turned_lens {X Y : Int} (hX : lc X.natAbs ≤ 60) (hY : lc Y.natAbs ≤ 60) (h0 : Y ≠ 0) :
    lc (X.fmod Y).natAbs ≤ 4096 ∧ True ∧ (rawOf (X.fdiv Y)).2.length ≤ 1099511627776 ∧ (rawOf (X.fmod Y)).2.length ≤ 1099511627776 ∧ lc (X.tdiv Y).natAbs ≤ 4096 ∧ lc (X.tmod Y).natAbs ≤ 4096 ∧ (rawOf (X.tdiv Y)).2.length ≤ 1099511627776 ∧ (rawOf (X.tmod Y)).2.length ≤ 1099511627776 := by
  have ht : lc (X.tdiv Y).natAbs ≤ 60 := lc_abs (by rw [Int.natAbs_tdiv]; exact Nat.div_le_self _ _) hX
  have hm : lc (X.tmod Y).natAbs ≤ 60 := lc_abs (by rw [Int.natAbs_tmod]; exact Nat.mod_le _ _) hX
  have hr : lc (X.fmod Y).natAbs ≤ 60 := lc_abs (Nat.le_of_lt (fmod_size X h0)) hY
  have hf : lc (X.fdiv Y).natAbs ≤ 62 := by
    have h1 : (X.fdiv Y).natAbs ≤ X.natAbs + 1 := by
      have h2 : (X.tdiv Y).natAbs ≤ X.natAbs := by rw [Int.natAbs_tdiv]; exact Nat.div_le_self _ _
      rcases floor_case X Y h0 with ⟨_, _, h1, _⟩ | ⟨_, h1, _⟩ <;> rw [h1] <;> omega
    have h3 := lc_add X.natAbs 1
    have h4 : lc 1 ≤ 1 := one_len
    exact Nat.le_trans (lc_mono h1) (by omega)
  exact ⟨by omega, trivial, Nat.le_trans hf (by omega), Nat.le_trans hr (by omega), by omega, by omega, Nat.le_trans ht (by omega), Nat.le_trans hm (by omega)⟩
set_option maxHeartbeats 4000000 in
set_option maxRecDepth 100000 in
theorem law17_turned (t u v : Value) (x y z : Raw) (w : World) (ht : RawV w t x) (hu : RawV w u y) (hv : RawV w v z) :
    Calls Try.prog 4 #[t, u, v] w fun e w' => e = .returned (.bool true) ∧ Below w.heap.size w w' := by
  obtain ⟨b1, A1, l1, c1, rfl, HA⟩ := ht.open
  obtain ⟨b2, A2, l2, c2, rfl, HB⟩ := hu.open
  obtain ⟨b3, A3, l3, c3, rfl, HC⟩ := hv.open
  have HP := Lib.hid (And.intro HA.out.parts.2.1 (And.intro HB.out.parts.2.1 HC.out.parts.2.1))
  clear ht hu hv
  go_enter Try.func4, Try.ntmps4
  go_wp2_with fail
  have B := Lib.hid (show Since w w from Below.refl _ _)
  obtain ⟨W0, g1, g2, g3, hW, hg, hh, hr, xa, xb, xc, G_g1, S_W0, hb⟩ := boxH3 w (.bool b1) (.slice A1 l1 c1) (.bool b2) (.slice A2 l2 c2) (.bool b3) (.slice A3 l3 c3)
  rw [hW, hr, hh, hg]
  replace HA := Lib.hid (HA.out.stay hb)
  replace HB := Lib.hid (HB.out.stay hb)
  replace HC := Lib.hid (HC.out.stay hb)
  replace B := Lib.hid (B.out.stay hb)
  have B_W0 := Lib.hid (show Since w W0 from hb)
  clear hW hg hh hr hb
  have K1 := Lib.hid (show g1 < g2 by have := G_g1.out; omega)
  have K2 := Lib.hid (show g2 < g3 by have := G_g1.out; omega)
  have HBASE := Lib.hid (show w.heap.size ≤ g1 by have := G_g1.out; omega)
  clear G_g1 S_W0 B_W0
  refine (law17_awake W0).mono ?_
  rintro e v1 ⟨rfl, hb⟩
  replace HA := Lib.hid (HA.out.stay hb)
  replace HB := Lib.hid (HB.out.stay hb)
  replace HC := Lib.hid (HC.out.stay hb)
  replace B := Lib.hid (B.out.stay hb)
  replace xa := Lib.hid (xa.out.stay hb)
  replace xb := Lib.hid (xb.out.stay hb)
  replace xc := Lib.hid (xc.out.stay hb)
  clear hb
  have a0 := xa.out.cell0
  have a1 := xa.out.cell1
  go_wp2_with fail
  refine (raw_right _ x _ HA.out).mono ?_
  rintro e v2 ⟨rfl, hb⟩
  replace HA := Lib.hid (HA.out.stay hb)
  replace HB := Lib.hid (HB.out.stay hb)
  replace HC := Lib.hid (HC.out.stay hb)
  replace B := Lib.hid (B.out.stay hb)
  replace xa := Lib.hid (xa.out.stay hb)
  replace xb := Lib.hid (xb.out.stay hb)
  replace xc := Lib.hid (xc.out.stay hb)
  clear hb a0 a1
  rcases hra : rightInt x
  · clear hra
    go_wp2_with fail
    go_ret
    exact ⟨rfl, B.out⟩
  have HRA := Lib.hid hra
  clear hra
  have a0 := xb.out.cell0
  have a1 := xb.out.cell1
  go_wp2_with fail
  refine (raw_right _ y _ HB.out).mono ?_
  rintro e v3 ⟨rfl, hb⟩
  replace HA := Lib.hid (HA.out.stay hb)
  replace HB := Lib.hid (HB.out.stay hb)
  replace HC := Lib.hid (HC.out.stay hb)
  replace B := Lib.hid (B.out.stay hb)
  replace xa := Lib.hid (xa.out.stay hb)
  replace xb := Lib.hid (xb.out.stay hb)
  replace xc := Lib.hid (xc.out.stay hb)
  clear hb a0 a1
  rcases hrb : rightInt y
  · clear hrb
    go_wp2_with fail
    go_ret
    exact ⟨rfl, B.out⟩
  have HRB := Lib.hid hrb
  clear hrb
  have a0 := xc.out.cell0
  have a1 := xc.out.cell1
  go_wp2_with fail
  refine (raw_right _ z _ HC.out).mono ?_
  rintro e v4 ⟨rfl, hb⟩
  replace HA := Lib.hid (HA.out.stay hb)
  replace HB := Lib.hid (HB.out.stay hb)
  replace HC := Lib.hid (HC.out.stay hb)
  replace B := Lib.hid (B.out.stay hb)
  replace xa := Lib.hid (xa.out.stay hb)
  replace xb := Lib.hid (xb.out.stay hb)
  replace xc := Lib.hid (xc.out.stay hb)
  clear hb a0 a1
  rcases hrc : rightInt z
  · clear hrc
    go_wp2_with fail
    go_ret
    exact ⟨rfl, B.out⟩
  have HRC := Lib.hid hrc
  clear hrc
  obtain ⟨X, hX, hlX, _⟩ := right_int_of (b := x.1) (xs := x.2) (HA.out.parts.2.2.2).small HRA.out
  obtain ⟨Y, hY, hlY, _⟩ := right_int_of (b := y.1) (xs := y.2) (HB.out.parts.2.2.2).small HRB.out
  obtain ⟨U, hU, hlU, _⟩ := right_int_of (b := z.1) (xs := z.2) (HC.out.parts.2.2.2).small HRC.out
  have HLL := Lib.hid (show l1 = lc X.natAbs ∧ l2 = lc Y.natAbs ∧ l3 = lc U.natAbs by rw [hlX, hlY, hlU]; exact HP.out)
  have hX' : x = rawOf X := hX
  have hY' : y = rawOf Y := hY
  have hU' : z = rawOf U := hU
  rw [hX'] at HA
  rw [hY'] at HB
  rw [hU'] at HC
  replace HA := Lib.hid HA.out.int
  replace HB := Lib.hid HB.out.int
  replace HC := Lib.hid HC.out.int
  clear hX hY hU hX' hY' hU' hlX hlY hlU HRA HRB HRC HP
  have a0 := xb.out.cell0
  have a1 := xb.out.cell1
  go_wp2_with fail
  refine (law17_sign _ (rawOf Y) _ HB.out.raw).mono ?_
  rintro e w0 ⟨rfl, hb⟩
  rw [sgnR_int]
  replace HA := Lib.hid (HA.out.stay hb)
  replace HB := Lib.hid (HB.out.stay hb)
  replace HC := Lib.hid (HC.out.stay hb)
  replace B := Lib.hid (B.out.stay hb)
  replace xa := Lib.hid (xa.out.stay hb)
  replace xb := Lib.hid (xb.out.stay hb)
  replace xc := Lib.hid (xc.out.stay hb)
  clear hb a0 a1
  by_cases h0 : Y = 0
  · subst h0
    rw [show (0 : Int).sign = 0 from rfl]
    go_wp2_with fail
    go_ret
    exact ⟨rfl, B.out⟩
  have hsg : (Y.sign == 0) = false := beq_eq_false_iff_ne.2 (fun h => h0 (Int.sign_eq_zero_iff_zero.1 h))
  have H0 := Lib.hid h0
  obtain ⟨sg, hsg'⟩ : ∃ sg, Y.sign = sg := ⟨_, rfl⟩
  rw [hsg'] at hsg ⊢
  clear h0 hsg'
  have a0 := xa.out.cell0
  have a1 := xa.out.cell1
  have k0 := xb.out.cell0
  have k1 := xb.out.cell1
  have c0 := xc.out.cell0
  have c1 := xc.out.cell1
  by_cases hl1 : 60 < l1
  · have hI : (60 : Int) < (l1 : Int) := by omega
    clear hl1
    go_wp2_with fail
    go_ret
    exact ⟨rfl, B.out⟩
  by_cases hl2 : 60 < l2
  · have hI : (60 : Int) < (l2 : Int) := by omega
    have hJ : ¬ (60 : Int) < (l1 : Int) := by omega
    clear hl1 hl2
    go_wp2_with fail
    go_ret
    exact ⟨rfl, B.out⟩
  by_cases hl3 : 60 < l3
  · have hI : (60 : Int) < (l3 : Int) := by omega
    have hJ : ¬ (60 : Int) < (l1 : Int) := by omega
    have hK : ¬ (60 : Int) < (l2 : Int) := by omega
    clear hl1 hl2 hl3
    go_wp2_with fail
    go_ret
    exact ⟨rfl, B.out⟩
  · have hI : ¬ (60 : Int) < (l1 : Int) := by omega
    have hJ : ¬ (60 : Int) < (l2 : Int) := by omega
    have hK : ¬ (60 : Int) < (l3 : Int) := by omega
    have HL := Lib.hid (show lc X.natAbs ≤ 60 ∧ lc Y.natAbs ≤ 60 ∧ lc U.natAbs ≤ 60 by have := HLL.out; omega)
    have HT := Lib.hid (turned_lens HL.out.1 HL.out.2.1 H0.out)
    have HM := Lib.hid (show lc (X * Y).natAbs ≤ 4096 ∧ True by
      refine ⟨?_, trivial⟩
      rw [Int.natAbs_mul]
      have h1 := lc_mul X.natAbs Y.natAbs
      have := HL.out
      omega)
    clear hl1 hl2 hl3 HLL
    go_upto_region 5 with (fail)
    clear hI hJ hK hsg a0 a1 k0 k1 c0 c1
    have a0 := xa.out.cell0
    have a1 := xa.out.cell1
    go_wp2_with fail
    refine (limb_Neg _ X _ HA.out (by have := HL.out.1; omega)).mono ?_
    rintro e w1 ⟨p, rfl, hp, hb⟩
    obtain ⟨bna1, Ana1, lna1, cna1, rfl, HNA⟩ := hp.rawV.open
    replace HNA := Lib.hid HNA.out.int
    replace HA := Lib.hid (HA.out.stay hb)
    replace HB := Lib.hid (HB.out.stay hb)
    replace HC := Lib.hid (HC.out.stay hb)
    replace B := Lib.hid (B.out.stay hb)
    replace xa := Lib.hid (xa.out.stay hb)
    replace xb := Lib.hid (xb.out.stay hb)
    replace xc := Lib.hid (xc.out.stay hb)
    clear hb a0 a1 hp
    go_upto_region 6 with (fail)
    have C_3 := Lib.hid xc.out.lt
    obtain ⟨W1, g_na, hW, hg, x_na, G_g_na, S_W1, hb⟩ := boxH w1 (.bool bna1) (.slice Ana1 lna1 cna1)
    rw [hW, hg]
    replace HA := Lib.hid (HA.out.stay hb)
    replace HB := Lib.hid (HB.out.stay hb)
    replace HC := Lib.hid (HC.out.stay hb)
    replace B := Lib.hid (B.out.stay hb)
    replace xa := Lib.hid (xa.out.stay hb)
    replace xb := Lib.hid (xb.out.stay hb)
    replace xc := Lib.hid (xc.out.stay hb)
    replace HNA := Lib.hid (HNA.out.stay hb)
    have B_W1 := Lib.hid (show Since w1 W1 from hb)
    clear hW hg hb
    replace C_3 := Lib.hid (show g3 < g_na by have h1 := C_3.out; have h2 := G_g_na.out; omega)
    clear G_g_na S_W1 B_W1
    have a0 := xb.out.cell0
    have a1 := xb.out.cell1
    go_wp2_with fail
    refine (limb_Neg _ Y _ HB.out (by have := HL.out.2.1; omega)).mono ?_
    rintro e w2 ⟨p, rfl, hp, hb⟩
    obtain ⟨bnb2, Anb2, lnb2, cnb2, rfl, HNB⟩ := hp.rawV.open
    replace HNB := Lib.hid HNB.out.int
    replace HA := Lib.hid (HA.out.stay hb)
    replace HB := Lib.hid (HB.out.stay hb)
    replace HC := Lib.hid (HC.out.stay hb)
    replace B := Lib.hid (B.out.stay hb)
    replace xa := Lib.hid (xa.out.stay hb)
    replace xb := Lib.hid (xb.out.stay hb)
    replace xc := Lib.hid (xc.out.stay hb)
    replace HNA := Lib.hid (HNA.out.stay hb)
    replace x_na := Lib.hid (x_na.out.stay hb)
    clear hb a0 a1 hp
    go_upto_region 7 with (fail)
    have C_4 := Lib.hid x_na.out.lt
    obtain ⟨W2, g_nb, hW, hg, x_nb, G_g_nb, S_W2, hb⟩ := boxH w2 (.bool bnb2) (.slice Anb2 lnb2 cnb2)
    rw [hW, hg]
    replace HA := Lib.hid (HA.out.stay hb)
    replace HB := Lib.hid (HB.out.stay hb)
    replace HC := Lib.hid (HC.out.stay hb)
    replace B := Lib.hid (B.out.stay hb)
    replace xa := Lib.hid (xa.out.stay hb)
    replace xb := Lib.hid (xb.out.stay hb)
    replace xc := Lib.hid (xc.out.stay hb)
    replace HNA := Lib.hid (HNA.out.stay hb)
    replace x_na := Lib.hid (x_na.out.stay hb)
    replace HNB := Lib.hid (HNB.out.stay hb)
    have B_W2 := Lib.hid (show Since w2 W2 from hb)
    clear hW hg hb
    replace C_4 := Lib.hid (show g_na < g_nb by have h1 := C_4.out; have h2 := G_g_nb.out; omega)
    clear G_g_nb S_W2 B_W2
    have a0 := xa.out.cell0
    have a1 := xa.out.cell1
    have k0 := xb.out.cell0
    have k1 := xb.out.cell1
    go_wp2_with fail
    refine (divide_Floor _ _ X Y _ HA.out HB.out (by have := HL.out.1; omega) (by have := HL.out.2.1; omega) H0.out (.inl (by have := HL.out.2.1; omega))).mono ?_
    rintro e w3 ⟨p3, q3, rfl, hp, hq, -, hb⟩
    obtain ⟨bq3, Aq3, lq3, cq3, rfl, HQ⟩ := hp.rawV.open
    replace HQ := Lib.hid HQ.out.int
    obtain ⟨br3, Ar3, lr3, cr3, rfl, HR⟩ := hq.rawV.open
    replace HR := Lib.hid HR.out.int
    replace HA := Lib.hid (HA.out.stay hb)
    replace HB := Lib.hid (HB.out.stay hb)
    replace HC := Lib.hid (HC.out.stay hb)
    replace B := Lib.hid (B.out.stay hb)
    replace xa := Lib.hid (xa.out.stay hb)
    replace xb := Lib.hid (xb.out.stay hb)
    replace xc := Lib.hid (xc.out.stay hb)
    replace HNA := Lib.hid (HNA.out.stay hb)
    replace x_na := Lib.hid (x_na.out.stay hb)
    replace HNB := Lib.hid (HNB.out.stay hb)
    replace x_nb := Lib.hid (x_nb.out.stay hb)
    clear hb a0 a1 k0 k1 hp hq
    go_upto_region 8 with (fail)
    have C_5 := Lib.hid x_nb.out.lt
    obtain ⟨W3, g_q, g_r, hW, hg, hr, x_q, x_r, G_g_q, S_W3, hb⟩ := boxH2 w3 (.bool bq3) (.slice Aq3 lq3 cq3) (.bool br3) (.slice Ar3 lr3 cr3)
    rw [hW, hr, hg]
    replace HA := Lib.hid (HA.out.stay hb)
    replace HB := Lib.hid (HB.out.stay hb)
    replace HC := Lib.hid (HC.out.stay hb)
    replace B := Lib.hid (B.out.stay hb)
    replace xa := Lib.hid (xa.out.stay hb)
    replace xb := Lib.hid (xb.out.stay hb)
    replace xc := Lib.hid (xc.out.stay hb)
    replace HNA := Lib.hid (HNA.out.stay hb)
    replace x_na := Lib.hid (x_na.out.stay hb)
    replace HNB := Lib.hid (HNB.out.stay hb)
    replace x_nb := Lib.hid (x_nb.out.stay hb)
    replace HQ := Lib.hid (HQ.out.stay hb)
    replace HR := Lib.hid (HR.out.stay hb)
    have B_W3 := Lib.hid (show Since w3 W3 from hb)
    clear hW hg hr hb
    replace C_5 := Lib.hid (show g_nb < g_q by have h1 := C_5.out; have h2 := G_g_q.out; omega)
    have C_6 := Lib.hid (show g_q < g_r by have h2 := G_g_q.out; omega)
    clear G_g_q S_W3 B_W3
    have a0 := x_na.out.cell0
    have a1 := x_na.out.cell1
    have k0 := x_nb.out.cell0
    have k1 := x_nb.out.cell1
    go_wp2_with fail
    refine (divide_Floor _ _ (-X) (-Y) _ HNA.out HNB.out (by rw [Int.natAbs_neg]; have := HL.out.1; omega) (by rw [Int.natAbs_neg]; have := HL.out.2.1; omega) (by have := H0.out; omega) (.inl (by rw [Int.natAbs_neg]; have := HL.out.2.1; omega))).mono ?_
    rintro e w4 ⟨p4, q4, rfl, hp, hq, -, hb⟩
    rw [Int.neg_fdiv_neg] at hp
    rw [Int.neg_fmod_neg] at hq
    obtain ⟨bp4, Ap4, lp4, cp4, rfl, HP⟩ := hp.rawV.open
    replace HP := Lib.hid HP.out.int
    obtain ⟨bs4, As4, ls4, cs4, rfl, HS⟩ := hq.rawV.open
    replace HS := Lib.hid HS.out.int
    replace HA := Lib.hid (HA.out.stay hb)
    replace HB := Lib.hid (HB.out.stay hb)
    replace HC := Lib.hid (HC.out.stay hb)
    replace B := Lib.hid (B.out.stay hb)
    replace xa := Lib.hid (xa.out.stay hb)
    replace xb := Lib.hid (xb.out.stay hb)
    replace xc := Lib.hid (xc.out.stay hb)
    replace HNA := Lib.hid (HNA.out.stay hb)
    replace x_na := Lib.hid (x_na.out.stay hb)
    replace HNB := Lib.hid (HNB.out.stay hb)
    replace x_nb := Lib.hid (x_nb.out.stay hb)
    replace HQ := Lib.hid (HQ.out.stay hb)
    replace HR := Lib.hid (HR.out.stay hb)
    replace x_q := Lib.hid (x_q.out.stay hb)
    replace x_r := Lib.hid (x_r.out.stay hb)
    clear hb a0 a1 k0 k1 hp hq
    go_upto_region 9 with (fail)
    have C_7 := Lib.hid x_r.out.lt
    obtain ⟨W4, g_p, g_s, hW, hg, hr, x_p, x_s, G_g_p, S_W4, hb⟩ := boxH2 w4 (.bool bp4) (.slice Ap4 lp4 cp4) (.bool bs4) (.slice As4 ls4 cs4)
    rw [hW, hr, hg]
    replace HA := Lib.hid (HA.out.stay hb)
    replace HB := Lib.hid (HB.out.stay hb)
    replace HC := Lib.hid (HC.out.stay hb)
    replace B := Lib.hid (B.out.stay hb)
    replace xa := Lib.hid (xa.out.stay hb)
    replace xb := Lib.hid (xb.out.stay hb)
    replace xc := Lib.hid (xc.out.stay hb)
    replace HNA := Lib.hid (HNA.out.stay hb)
    replace x_na := Lib.hid (x_na.out.stay hb)
    replace HNB := Lib.hid (HNB.out.stay hb)
    replace x_nb := Lib.hid (x_nb.out.stay hb)
    replace HQ := Lib.hid (HQ.out.stay hb)
    replace HR := Lib.hid (HR.out.stay hb)
    replace x_q := Lib.hid (x_q.out.stay hb)
    replace x_r := Lib.hid (x_r.out.stay hb)
    replace HP := Lib.hid (HP.out.stay hb)
    replace HS := Lib.hid (HS.out.stay hb)
    have B_W4 := Lib.hid (show Since w4 W4 from hb)
    clear hW hg hr hb
    replace C_7 := Lib.hid (show g_r < g_p by have h1 := C_7.out; have h2 := G_g_p.out; omega)
    have C_8 := Lib.hid (show g_p < g_s by have h2 := G_g_p.out; omega)
    clear G_g_p S_W4 B_W4
    have a0 := x_r.out.cell0
    have a1 := x_r.out.cell1
    go_wp2_with fail
    refine (limb_Neg _ (X.fmod Y) _ HR.out (HT.out.1)).mono ?_
    rintro e w5 ⟨p, rfl, hp, hb⟩
    obtain ⟨bminus5, Aminus5, lminus5, cminus5, rfl, HMI⟩ := hp.rawV.open
    replace HMI := Lib.hid HMI.out.int
    replace HA := Lib.hid (HA.out.stay hb)
    replace HB := Lib.hid (HB.out.stay hb)
    replace HC := Lib.hid (HC.out.stay hb)
    replace B := Lib.hid (B.out.stay hb)
    replace xa := Lib.hid (xa.out.stay hb)
    replace xb := Lib.hid (xb.out.stay hb)
    replace xc := Lib.hid (xc.out.stay hb)
    replace HNA := Lib.hid (HNA.out.stay hb)
    replace x_na := Lib.hid (x_na.out.stay hb)
    replace HNB := Lib.hid (HNB.out.stay hb)
    replace x_nb := Lib.hid (x_nb.out.stay hb)
    replace HQ := Lib.hid (HQ.out.stay hb)
    replace HR := Lib.hid (HR.out.stay hb)
    replace x_q := Lib.hid (x_q.out.stay hb)
    replace x_r := Lib.hid (x_r.out.stay hb)
    replace HP := Lib.hid (HP.out.stay hb)
    replace HS := Lib.hid (HS.out.stay hb)
    replace x_p := Lib.hid (x_p.out.stay hb)
    replace x_s := Lib.hid (x_s.out.stay hb)
    clear hb a0 a1 hp
    go_upto_region 10 with (fail)
    have C_9 := Lib.hid x_s.out.lt
    obtain ⟨W5, g_minus, hW, hg, x_minus, G_g_minus, S_W5, hb⟩ := boxH w5 (.bool bminus5) (.slice Aminus5 lminus5 cminus5)
    rw [hW, hg]
    replace HA := Lib.hid (HA.out.stay hb)
    replace HB := Lib.hid (HB.out.stay hb)
    replace HC := Lib.hid (HC.out.stay hb)
    replace B := Lib.hid (B.out.stay hb)
    replace xa := Lib.hid (xa.out.stay hb)
    replace xb := Lib.hid (xb.out.stay hb)
    replace xc := Lib.hid (xc.out.stay hb)
    replace HNA := Lib.hid (HNA.out.stay hb)
    replace x_na := Lib.hid (x_na.out.stay hb)
    replace HNB := Lib.hid (HNB.out.stay hb)
    replace x_nb := Lib.hid (x_nb.out.stay hb)
    replace HQ := Lib.hid (HQ.out.stay hb)
    replace HR := Lib.hid (HR.out.stay hb)
    replace x_q := Lib.hid (x_q.out.stay hb)
    replace x_r := Lib.hid (x_r.out.stay hb)
    replace HP := Lib.hid (HP.out.stay hb)
    replace HS := Lib.hid (HS.out.stay hb)
    replace x_p := Lib.hid (x_p.out.stay hb)
    replace x_s := Lib.hid (x_s.out.stay hb)
    replace HMI := Lib.hid (HMI.out.stay hb)
    have B_W5 := Lib.hid (show Since w5 W5 from hb)
    clear hW hg hb
    replace C_9 := Lib.hid (show g_s < g_minus by have h1 := C_9.out; have h2 := G_g_minus.out; omega)
    clear G_g_minus S_W5 B_W5
    have a0 := x_p.out.cell0
    have a1 := x_p.out.cell1
    have k0 := x_q.out.cell0
    have k1 := x_q.out.cell1
    go_wp2_with fail
    refine (kit_raw _ _ _ _ _ HP.out.raw HQ.out.raw (HT.out.2.2.1)).mono ?_
    rintro e w6 ⟨rfl, hb⟩
    rw [decide_eq_true rfl]
    replace HA := Lib.hid (HA.out.stay hb)
    replace HB := Lib.hid (HB.out.stay hb)
    replace HC := Lib.hid (HC.out.stay hb)
    replace B := Lib.hid (B.out.stay hb)
    replace xa := Lib.hid (xa.out.stay hb)
    replace xb := Lib.hid (xb.out.stay hb)
    replace xc := Lib.hid (xc.out.stay hb)
    replace HNA := Lib.hid (HNA.out.stay hb)
    replace x_na := Lib.hid (x_na.out.stay hb)
    replace HNB := Lib.hid (HNB.out.stay hb)
    replace x_nb := Lib.hid (x_nb.out.stay hb)
    replace HQ := Lib.hid (HQ.out.stay hb)
    replace HR := Lib.hid (HR.out.stay hb)
    replace x_q := Lib.hid (x_q.out.stay hb)
    replace x_r := Lib.hid (x_r.out.stay hb)
    replace HP := Lib.hid (HP.out.stay hb)
    replace HS := Lib.hid (HS.out.stay hb)
    replace x_p := Lib.hid (x_p.out.stay hb)
    replace x_s := Lib.hid (x_s.out.stay hb)
    replace HMI := Lib.hid (HMI.out.stay hb)
    replace x_minus := Lib.hid (x_minus.out.stay hb)
    clear hb a0 a1 k0 k1
    have a0 := x_s.out.cell0
    have a1 := x_s.out.cell1
    have k0 := x_minus.out.cell0
    have k1 := x_minus.out.cell1
    go_wp2_with fail
    refine (kit_raw _ _ _ _ _ HS.out.raw HMI.out.raw (by rw [← rawNeg]; exact HT.out.2.2.2.1)).mono ?_
    rintro e w7 ⟨rfl, hb⟩
    rw [decide_eq_true rfl]
    replace HA := Lib.hid (HA.out.stay hb)
    replace HB := Lib.hid (HB.out.stay hb)
    replace HC := Lib.hid (HC.out.stay hb)
    replace B := Lib.hid (B.out.stay hb)
    replace xa := Lib.hid (xa.out.stay hb)
    replace xb := Lib.hid (xb.out.stay hb)
    replace xc := Lib.hid (xc.out.stay hb)
    replace HNA := Lib.hid (HNA.out.stay hb)
    replace x_na := Lib.hid (x_na.out.stay hb)
    replace HNB := Lib.hid (HNB.out.stay hb)
    replace x_nb := Lib.hid (x_nb.out.stay hb)
    replace HQ := Lib.hid (HQ.out.stay hb)
    replace HR := Lib.hid (HR.out.stay hb)
    replace x_q := Lib.hid (x_q.out.stay hb)
    replace x_r := Lib.hid (x_r.out.stay hb)
    replace HP := Lib.hid (HP.out.stay hb)
    replace HS := Lib.hid (HS.out.stay hb)
    replace x_p := Lib.hid (x_p.out.stay hb)
    replace x_s := Lib.hid (x_s.out.stay hb)
    replace HMI := Lib.hid (HMI.out.stay hb)
    replace x_minus := Lib.hid (x_minus.out.stay hb)
    clear hb a0 a1 k0 k1
    clear HP HQ HS HMI HR HNB x_minus x_nb
    have a0 := xa.out.cell0
    have a1 := xa.out.cell1
    have k0 := xb.out.cell0
    have k1 := xb.out.cell1
    go_wp2_with fail
    refine (divide_Trunc _ _ X Y _ HA.out HB.out (by have := HL.out.1; omega) (by have := HL.out.2.1; omega) H0.out (.inl (by have := HL.out.2.1; omega))).mono ?_
    rintro e w8 ⟨p8, q8, rfl, hp, hq, -, hb⟩
    obtain ⟨bq8, Aq8, lq8, cq8, rfl, HQ⟩ := hp.rawV.open
    replace HQ := Lib.hid HQ.out.int
    obtain ⟨br8, Ar8, lr8, cr8, rfl, HR⟩ := hq.rawV.open
    replace HR := Lib.hid HR.out.int
    replace HA := Lib.hid (HA.out.stay hb)
    replace HB := Lib.hid (HB.out.stay hb)
    replace HC := Lib.hid (HC.out.stay hb)
    replace B := Lib.hid (B.out.stay hb)
    replace xa := Lib.hid (xa.out.stay hb)
    replace xb := Lib.hid (xb.out.stay hb)
    replace xc := Lib.hid (xc.out.stay hb)
    replace HNA := Lib.hid (HNA.out.stay hb)
    replace x_na := Lib.hid (x_na.out.stay hb)
    replace x_q := Lib.hid (x_q.out.stay hb)
    replace x_r := Lib.hid (x_r.out.stay hb)
    replace x_p := Lib.hid (x_p.out.stay hb)
    replace x_s := Lib.hid (x_s.out.stay hb)
    clear hb a0 a1 k0 k1 hp hq
    have hne : ¬ g_q = g_r := Nat.ne_of_lt (C_6.out)
    have u0 := x_q.out.cell0
    have u1 := x_q.out.cell1
    have uf := x_q.out.free
    have v0 := x_r.out.cell0
    have v1 := x_r.out.cell1
    have vf := x_r.out.free
    go_upto_region 13 with (fail)
    clear hne
    clear u0 u1 uf v0 v1 vf
    obtain ⟨Wp9, hWp9, y9, pp9⟩ := x_q.out.write (.bool bq8) (.slice Aq8 lq8 cq8)
    rw [hWp9]
    replace HA := Lib.hid (HA.out.put pp9)
    replace HB := Lib.hid (HB.out.put pp9)
    replace HC := Lib.hid (HC.out.put pp9)
    replace HNA := Lib.hid (HNA.out.put pp9)
    replace HQ := Lib.hid (HQ.out.put pp9)
    replace HR := Lib.hid (HR.out.put pp9)
    replace xa := Lib.hid (xa.out.put pp9 (Nat.ne_of_lt (Nat.lt_trans (Nat.lt_trans (Nat.lt_trans (Nat.lt_trans (K1.out) K2.out) C_3.out) C_4.out) C_5.out)))
    replace xb := Lib.hid (xb.out.put pp9 (Nat.ne_of_lt (Nat.lt_trans (Nat.lt_trans (Nat.lt_trans (K2.out) C_3.out) C_4.out) C_5.out)))
    replace xc := Lib.hid (xc.out.put pp9 (Nat.ne_of_lt (Nat.lt_trans (Nat.lt_trans (C_3.out) C_4.out) C_5.out)))
    replace x_na := Lib.hid (x_na.out.put pp9 (Nat.ne_of_lt (Nat.lt_trans (C_4.out) C_5.out)))
    replace x_r := Lib.hid (x_r.out.put pp9 (Nat.ne_of_gt (C_6.out)))
    replace x_p := Lib.hid (x_p.out.put pp9 (Nat.ne_of_gt (Nat.lt_trans (C_6.out) C_7.out)))
    replace x_s := Lib.hid (x_s.out.put pp9 (Nat.ne_of_gt (Nat.lt_trans (Nat.lt_trans (C_6.out) C_7.out) C_8.out)))
    replace B := Lib.hid (B.out.put pp9 (Nat.le_trans HBASE.out (Nat.le_of_lt (Nat.lt_trans (Nat.lt_trans (Nat.lt_trans (Nat.lt_trans (K1.out) K2.out) C_3.out) C_4.out) C_5.out))))
    clear x_q
    have x_q := y9
    clear y9 hWp9 pp9
    obtain ⟨Wp10, hWp10, y10, pp10⟩ := x_r.out.write (.bool br8) (.slice Ar8 lr8 cr8)
    rw [hWp10]
    replace HA := Lib.hid (HA.out.put pp10)
    replace HB := Lib.hid (HB.out.put pp10)
    replace HC := Lib.hid (HC.out.put pp10)
    replace HNA := Lib.hid (HNA.out.put pp10)
    replace HQ := Lib.hid (HQ.out.put pp10)
    replace HR := Lib.hid (HR.out.put pp10)
    replace xa := Lib.hid (xa.out.put pp10 (Nat.ne_of_lt (Nat.lt_trans (Nat.lt_trans (Nat.lt_trans (Nat.lt_trans (Nat.lt_trans (K1.out) K2.out) C_3.out) C_4.out) C_5.out) C_6.out)))
    replace xb := Lib.hid (xb.out.put pp10 (Nat.ne_of_lt (Nat.lt_trans (Nat.lt_trans (Nat.lt_trans (Nat.lt_trans (K2.out) C_3.out) C_4.out) C_5.out) C_6.out)))
    replace xc := Lib.hid (xc.out.put pp10 (Nat.ne_of_lt (Nat.lt_trans (Nat.lt_trans (Nat.lt_trans (C_3.out) C_4.out) C_5.out) C_6.out)))
    replace x_na := Lib.hid (x_na.out.put pp10 (Nat.ne_of_lt (Nat.lt_trans (Nat.lt_trans (C_4.out) C_5.out) C_6.out)))
    replace x_q := Lib.hid (x_q.out.put pp10 (Nat.ne_of_lt (C_6.out)))
    replace x_p := Lib.hid (x_p.out.put pp10 (Nat.ne_of_gt (C_7.out)))
    replace x_s := Lib.hid (x_s.out.put pp10 (Nat.ne_of_gt (Nat.lt_trans (C_7.out) C_8.out)))
    replace B := Lib.hid (B.out.put pp10 (Nat.le_trans HBASE.out (Nat.le_of_lt (Nat.lt_trans (Nat.lt_trans (Nat.lt_trans (Nat.lt_trans (Nat.lt_trans (K1.out) K2.out) C_3.out) C_4.out) C_5.out) C_6.out))))
    clear x_r
    have x_r := y10
    clear y10 hWp10 pp10
    have a0 := x_na.out.cell0
    have a1 := x_na.out.cell1
    have k0 := xb.out.cell0
    have k1 := xb.out.cell1
    go_wp2_with fail
    refine (divide_Trunc _ _ (-X) Y _ HNA.out HB.out (by rw [Int.natAbs_neg]; have := HL.out.1; omega) (by have := HL.out.2.1; omega) H0.out (.inl (by have := HL.out.2.1; omega))).mono ?_
    rintro e w11 ⟨p11, q11, rfl, hp, hq, -, hb⟩
    rw [Int.neg_tdiv] at hp
    rw [Int.neg_tmod] at hq
    obtain ⟨bp11, Ap11, lp11, cp11, rfl, HP⟩ := hp.rawV.open
    replace HP := Lib.hid HP.out.int
    obtain ⟨bs11, As11, ls11, cs11, rfl, HS⟩ := hq.rawV.open
    replace HS := Lib.hid HS.out.int
    replace HA := Lib.hid (HA.out.stay hb)
    replace HB := Lib.hid (HB.out.stay hb)
    replace HC := Lib.hid (HC.out.stay hb)
    replace B := Lib.hid (B.out.stay hb)
    replace xa := Lib.hid (xa.out.stay hb)
    replace xb := Lib.hid (xb.out.stay hb)
    replace xc := Lib.hid (xc.out.stay hb)
    replace HNA := Lib.hid (HNA.out.stay hb)
    replace x_na := Lib.hid (x_na.out.stay hb)
    replace x_q := Lib.hid (x_q.out.stay hb)
    replace x_r := Lib.hid (x_r.out.stay hb)
    replace x_p := Lib.hid (x_p.out.stay hb)
    replace x_s := Lib.hid (x_s.out.stay hb)
    replace HQ := Lib.hid (HQ.out.stay hb)
    replace HR := Lib.hid (HR.out.stay hb)
    clear hb a0 a1 k0 k1 hp hq
    have hne : ¬ g_p = g_s := Nat.ne_of_lt (C_8.out)
    have u0 := x_p.out.cell0
    have u1 := x_p.out.cell1
    have uf := x_p.out.free
    have v0 := x_s.out.cell0
    have v1 := x_s.out.cell1
    have vf := x_s.out.free
    go_upto_region 14 with (fail)
    clear hne
    clear u0 u1 uf v0 v1 vf
    obtain ⟨Wp12, hWp12, y12, pp12⟩ := x_p.out.write (.bool bp11) (.slice Ap11 lp11 cp11)
    rw [hWp12]
    replace HA := Lib.hid (HA.out.put pp12)
    replace HB := Lib.hid (HB.out.put pp12)
    replace HC := Lib.hid (HC.out.put pp12)
    replace HNA := Lib.hid (HNA.out.put pp12)
    replace HQ := Lib.hid (HQ.out.put pp12)
    replace HR := Lib.hid (HR.out.put pp12)
    replace HP := Lib.hid (HP.out.put pp12)
    replace HS := Lib.hid (HS.out.put pp12)
    replace xa := Lib.hid (xa.out.put pp12 (Nat.ne_of_lt (Nat.lt_trans (Nat.lt_trans (Nat.lt_trans (Nat.lt_trans (Nat.lt_trans (Nat.lt_trans (K1.out) K2.out) C_3.out) C_4.out) C_5.out) C_6.out) C_7.out)))
    replace xb := Lib.hid (xb.out.put pp12 (Nat.ne_of_lt (Nat.lt_trans (Nat.lt_trans (Nat.lt_trans (Nat.lt_trans (Nat.lt_trans (K2.out) C_3.out) C_4.out) C_5.out) C_6.out) C_7.out)))
    replace xc := Lib.hid (xc.out.put pp12 (Nat.ne_of_lt (Nat.lt_trans (Nat.lt_trans (Nat.lt_trans (Nat.lt_trans (C_3.out) C_4.out) C_5.out) C_6.out) C_7.out)))
    replace x_na := Lib.hid (x_na.out.put pp12 (Nat.ne_of_lt (Nat.lt_trans (Nat.lt_trans (Nat.lt_trans (C_4.out) C_5.out) C_6.out) C_7.out)))
    replace x_q := Lib.hid (x_q.out.put pp12 (Nat.ne_of_lt (Nat.lt_trans (C_6.out) C_7.out)))
    replace x_r := Lib.hid (x_r.out.put pp12 (Nat.ne_of_lt (C_7.out)))
    replace x_s := Lib.hid (x_s.out.put pp12 (Nat.ne_of_gt (C_8.out)))
    replace B := Lib.hid (B.out.put pp12 (Nat.le_trans HBASE.out (Nat.le_of_lt (Nat.lt_trans (Nat.lt_trans (Nat.lt_trans (Nat.lt_trans (Nat.lt_trans (Nat.lt_trans (K1.out) K2.out) C_3.out) C_4.out) C_5.out) C_6.out) C_7.out))))
    clear x_p
    have x_p := y12
    clear y12 hWp12 pp12
    obtain ⟨Wp13, hWp13, y13, pp13⟩ := x_s.out.write (.bool bs11) (.slice As11 ls11 cs11)
    rw [hWp13]
    replace HA := Lib.hid (HA.out.put pp13)
    replace HB := Lib.hid (HB.out.put pp13)
    replace HC := Lib.hid (HC.out.put pp13)
    replace HNA := Lib.hid (HNA.out.put pp13)
    replace HQ := Lib.hid (HQ.out.put pp13)
    replace HR := Lib.hid (HR.out.put pp13)
    replace HP := Lib.hid (HP.out.put pp13)
    replace HS := Lib.hid (HS.out.put pp13)
    replace xa := Lib.hid (xa.out.put pp13 (Nat.ne_of_lt (Nat.lt_trans (Nat.lt_trans (Nat.lt_trans (Nat.lt_trans (Nat.lt_trans (Nat.lt_trans (Nat.lt_trans (K1.out) K2.out) C_3.out) C_4.out) C_5.out) C_6.out) C_7.out) C_8.out)))
    replace xb := Lib.hid (xb.out.put pp13 (Nat.ne_of_lt (Nat.lt_trans (Nat.lt_trans (Nat.lt_trans (Nat.lt_trans (Nat.lt_trans (Nat.lt_trans (K2.out) C_3.out) C_4.out) C_5.out) C_6.out) C_7.out) C_8.out)))
    replace xc := Lib.hid (xc.out.put pp13 (Nat.ne_of_lt (Nat.lt_trans (Nat.lt_trans (Nat.lt_trans (Nat.lt_trans (Nat.lt_trans (C_3.out) C_4.out) C_5.out) C_6.out) C_7.out) C_8.out)))
    replace x_na := Lib.hid (x_na.out.put pp13 (Nat.ne_of_lt (Nat.lt_trans (Nat.lt_trans (Nat.lt_trans (Nat.lt_trans (C_4.out) C_5.out) C_6.out) C_7.out) C_8.out)))
    replace x_q := Lib.hid (x_q.out.put pp13 (Nat.ne_of_lt (Nat.lt_trans (Nat.lt_trans (C_6.out) C_7.out) C_8.out)))
    replace x_r := Lib.hid (x_r.out.put pp13 (Nat.ne_of_lt (Nat.lt_trans (C_7.out) C_8.out)))
    replace x_p := Lib.hid (x_p.out.put pp13 (Nat.ne_of_lt (C_8.out)))
    replace B := Lib.hid (B.out.put pp13 (Nat.le_trans HBASE.out (Nat.le_of_lt (Nat.lt_trans (Nat.lt_trans (Nat.lt_trans (Nat.lt_trans (Nat.lt_trans (Nat.lt_trans (Nat.lt_trans (K1.out) K2.out) C_3.out) C_4.out) C_5.out) C_6.out) C_7.out) C_8.out))))
    clear x_s
    have x_s := y13
    clear y13 hWp13 pp13
    have a0 := x_q.out.cell0
    have a1 := x_q.out.cell1
    go_wp2_with fail
    refine (limb_Neg _ (X.tdiv Y) _ HQ.out (HT.out.2.2.2.2.1)).mono ?_
    rintro e w14 ⟨p, rfl, hp, hb⟩
    obtain ⟨bmq14, Amq14, lmq14, cmq14, rfl, HMQ⟩ := hp.rawV.open
    replace HMQ := Lib.hid HMQ.out.int
    replace HA := Lib.hid (HA.out.stay hb)
    replace HB := Lib.hid (HB.out.stay hb)
    replace HC := Lib.hid (HC.out.stay hb)
    replace B := Lib.hid (B.out.stay hb)
    replace xa := Lib.hid (xa.out.stay hb)
    replace xb := Lib.hid (xb.out.stay hb)
    replace xc := Lib.hid (xc.out.stay hb)
    replace HNA := Lib.hid (HNA.out.stay hb)
    replace x_na := Lib.hid (x_na.out.stay hb)
    replace x_q := Lib.hid (x_q.out.stay hb)
    replace x_r := Lib.hid (x_r.out.stay hb)
    replace x_p := Lib.hid (x_p.out.stay hb)
    replace x_s := Lib.hid (x_s.out.stay hb)
    replace HQ := Lib.hid (HQ.out.stay hb)
    replace HR := Lib.hid (HR.out.stay hb)
    replace HP := Lib.hid (HP.out.stay hb)
    replace HS := Lib.hid (HS.out.stay hb)
    clear hb a0 a1 hp
    go_upto_region 15 with (fail)
    have C_10 := Lib.hid x_s.out.lt
    obtain ⟨W14, g_mq, hW, hg, x_mq, G_g_mq, S_W14, hb⟩ := boxH w14 (.bool bmq14) (.slice Amq14 lmq14 cmq14)
    rw [hW, hg]
    replace HA := Lib.hid (HA.out.stay hb)
    replace HB := Lib.hid (HB.out.stay hb)
    replace HC := Lib.hid (HC.out.stay hb)
    replace B := Lib.hid (B.out.stay hb)
    replace xa := Lib.hid (xa.out.stay hb)
    replace xb := Lib.hid (xb.out.stay hb)
    replace xc := Lib.hid (xc.out.stay hb)
    replace HNA := Lib.hid (HNA.out.stay hb)
    replace x_na := Lib.hid (x_na.out.stay hb)
    replace x_q := Lib.hid (x_q.out.stay hb)
    replace x_r := Lib.hid (x_r.out.stay hb)
    replace x_p := Lib.hid (x_p.out.stay hb)
    replace x_s := Lib.hid (x_s.out.stay hb)
    replace HQ := Lib.hid (HQ.out.stay hb)
    replace HR := Lib.hid (HR.out.stay hb)
    replace HP := Lib.hid (HP.out.stay hb)
    replace HS := Lib.hid (HS.out.stay hb)
    replace HMQ := Lib.hid (HMQ.out.stay hb)
    have B_W14 := Lib.hid (show Since w14 W14 from hb)
    clear hW hg hb
    replace C_10 := Lib.hid (show g_s < g_mq by have h1 := C_10.out; have h2 := G_g_mq.out; omega)
    clear G_g_mq S_W14 B_W14
    have a0 := x_r.out.cell0
    have a1 := x_r.out.cell1
    go_wp2_with fail
    refine (limb_Neg _ (X.tmod Y) _ HR.out (HT.out.2.2.2.2.2.1)).mono ?_
    rintro e w15 ⟨p, rfl, hp, hb⟩
    obtain ⟨bmr15, Amr15, lmr15, cmr15, rfl, HMR⟩ := hp.rawV.open
    replace HMR := Lib.hid HMR.out.int
    replace HA := Lib.hid (HA.out.stay hb)
    replace HB := Lib.hid (HB.out.stay hb)
    replace HC := Lib.hid (HC.out.stay hb)
    replace B := Lib.hid (B.out.stay hb)
    replace xa := Lib.hid (xa.out.stay hb)
    replace xb := Lib.hid (xb.out.stay hb)
    replace xc := Lib.hid (xc.out.stay hb)
    replace HNA := Lib.hid (HNA.out.stay hb)
    replace x_na := Lib.hid (x_na.out.stay hb)
    replace x_q := Lib.hid (x_q.out.stay hb)
    replace x_r := Lib.hid (x_r.out.stay hb)
    replace x_p := Lib.hid (x_p.out.stay hb)
    replace x_s := Lib.hid (x_s.out.stay hb)
    replace HQ := Lib.hid (HQ.out.stay hb)
    replace HR := Lib.hid (HR.out.stay hb)
    replace HP := Lib.hid (HP.out.stay hb)
    replace HS := Lib.hid (HS.out.stay hb)
    replace HMQ := Lib.hid (HMQ.out.stay hb)
    replace x_mq := Lib.hid (x_mq.out.stay hb)
    clear hb a0 a1 hp
    go_upto_region 16 with (fail)
    have C_11 := Lib.hid x_mq.out.lt
    obtain ⟨W15, g_mr, hW, hg, x_mr, G_g_mr, S_W15, hb⟩ := boxH w15 (.bool bmr15) (.slice Amr15 lmr15 cmr15)
    rw [hW, hg]
    replace HA := Lib.hid (HA.out.stay hb)
    replace HB := Lib.hid (HB.out.stay hb)
    replace HC := Lib.hid (HC.out.stay hb)
    replace B := Lib.hid (B.out.stay hb)
    replace xa := Lib.hid (xa.out.stay hb)
    replace xb := Lib.hid (xb.out.stay hb)
    replace xc := Lib.hid (xc.out.stay hb)
    replace HNA := Lib.hid (HNA.out.stay hb)
    replace x_na := Lib.hid (x_na.out.stay hb)
    replace x_q := Lib.hid (x_q.out.stay hb)
    replace x_r := Lib.hid (x_r.out.stay hb)
    replace x_p := Lib.hid (x_p.out.stay hb)
    replace x_s := Lib.hid (x_s.out.stay hb)
    replace HQ := Lib.hid (HQ.out.stay hb)
    replace HR := Lib.hid (HR.out.stay hb)
    replace HP := Lib.hid (HP.out.stay hb)
    replace HS := Lib.hid (HS.out.stay hb)
    replace HMQ := Lib.hid (HMQ.out.stay hb)
    replace x_mq := Lib.hid (x_mq.out.stay hb)
    replace HMR := Lib.hid (HMR.out.stay hb)
    have B_W15 := Lib.hid (show Since w15 W15 from hb)
    clear hW hg hb
    replace C_11 := Lib.hid (show g_mq < g_mr by have h1 := C_11.out; have h2 := G_g_mr.out; omega)
    clear G_g_mr S_W15 B_W15
    have a0 := x_p.out.cell0
    have a1 := x_p.out.cell1
    have k0 := x_mq.out.cell0
    have k1 := x_mq.out.cell1
    go_wp2_with fail
    refine (kit_raw _ _ _ _ _ HP.out.raw HMQ.out.raw (by rw [← rawNeg]; exact HT.out.2.2.2.2.2.2.1)).mono ?_
    rintro e w16 ⟨rfl, hb⟩
    rw [decide_eq_true rfl]
    replace HA := Lib.hid (HA.out.stay hb)
    replace HB := Lib.hid (HB.out.stay hb)
    replace HC := Lib.hid (HC.out.stay hb)
    replace B := Lib.hid (B.out.stay hb)
    replace xa := Lib.hid (xa.out.stay hb)
    replace xb := Lib.hid (xb.out.stay hb)
    replace xc := Lib.hid (xc.out.stay hb)
    replace HNA := Lib.hid (HNA.out.stay hb)
    replace x_na := Lib.hid (x_na.out.stay hb)
    replace x_q := Lib.hid (x_q.out.stay hb)
    replace x_r := Lib.hid (x_r.out.stay hb)
    replace x_p := Lib.hid (x_p.out.stay hb)
    replace x_s := Lib.hid (x_s.out.stay hb)
    replace HQ := Lib.hid (HQ.out.stay hb)
    replace HR := Lib.hid (HR.out.stay hb)
    replace HP := Lib.hid (HP.out.stay hb)
    replace HS := Lib.hid (HS.out.stay hb)
    replace HMQ := Lib.hid (HMQ.out.stay hb)
    replace x_mq := Lib.hid (x_mq.out.stay hb)
    replace HMR := Lib.hid (HMR.out.stay hb)
    replace x_mr := Lib.hid (x_mr.out.stay hb)
    clear hb a0 a1 k0 k1
    have a0 := x_s.out.cell0
    have a1 := x_s.out.cell1
    have k0 := x_mr.out.cell0
    have k1 := x_mr.out.cell1
    go_wp2_with fail
    refine (kit_raw _ _ _ _ _ HS.out.raw HMR.out.raw (by rw [← rawNeg]; exact HT.out.2.2.2.2.2.2.2)).mono ?_
    rintro e w17 ⟨rfl, hb⟩
    rw [decide_eq_true rfl]
    replace HA := Lib.hid (HA.out.stay hb)
    replace HB := Lib.hid (HB.out.stay hb)
    replace HC := Lib.hid (HC.out.stay hb)
    replace B := Lib.hid (B.out.stay hb)
    replace xa := Lib.hid (xa.out.stay hb)
    replace xb := Lib.hid (xb.out.stay hb)
    replace xc := Lib.hid (xc.out.stay hb)
    replace HNA := Lib.hid (HNA.out.stay hb)
    replace x_na := Lib.hid (x_na.out.stay hb)
    replace x_q := Lib.hid (x_q.out.stay hb)
    replace x_r := Lib.hid (x_r.out.stay hb)
    replace x_p := Lib.hid (x_p.out.stay hb)
    replace x_s := Lib.hid (x_s.out.stay hb)
    replace HQ := Lib.hid (HQ.out.stay hb)
    replace HR := Lib.hid (HR.out.stay hb)
    replace HP := Lib.hid (HP.out.stay hb)
    replace HS := Lib.hid (HS.out.stay hb)
    replace HMQ := Lib.hid (HMQ.out.stay hb)
    replace x_mq := Lib.hid (x_mq.out.stay hb)
    replace HMR := Lib.hid (HMR.out.stay hb)
    replace x_mr := Lib.hid (x_mr.out.stay hb)
    clear hb a0 a1 k0 k1
    clear HP HS HMQ HMR HQ HR HNA x_mq x_mr x_na x_p x_s x_q x_r
    have a0 := xa.out.cell0
    have a1 := xa.out.cell1
    have k0 := xb.out.cell0
    have k1 := xb.out.cell1
    go_wp2_with fail
    refine (times_Mul_any _ _ X Y _ HA.out HB.out (by have := HL.out.1; omega) (by have := HL.out.2.1; omega)).mono ?_
    rintro e w18 ⟨p, rfl, hp, hb⟩
    rw [longR_ok HM.out.1] at hp
    rw [longE_ok HM.out.1]
    obtain ⟨bab18, Aab18, lab18, cab18, rfl, HAB⟩ := hp.rawV.open
    replace HAB := Lib.hid HAB.out.int
    replace HA := Lib.hid (HA.out.stay hb)
    replace HB := Lib.hid (HB.out.stay hb)
    replace HC := Lib.hid (HC.out.stay hb)
    replace B := Lib.hid (B.out.stay hb)
    replace xa := Lib.hid (xa.out.stay hb)
    replace xb := Lib.hid (xb.out.stay hb)
    replace xc := Lib.hid (xc.out.stay hb)
    clear hb a0 a1 k0 k1 hp
    go_upto_region 19 with (fail)
    have C_12 := Lib.hid xc.out.lt
    obtain ⟨W18, g_ab, hW, hg, x_ab, G_g_ab, S_W18, hb⟩ := boxH w18 (.bool bab18) (.slice Aab18 lab18 cab18)
    rw [hW, hg]
    replace HA := Lib.hid (HA.out.stay hb)
    replace HB := Lib.hid (HB.out.stay hb)
    replace HC := Lib.hid (HC.out.stay hb)
    replace B := Lib.hid (B.out.stay hb)
    replace xa := Lib.hid (xa.out.stay hb)
    replace xb := Lib.hid (xb.out.stay hb)
    replace xc := Lib.hid (xc.out.stay hb)
    replace HAB := Lib.hid (HAB.out.stay hb)
    have B_W18 := Lib.hid (show Since w18 W18 from hb)
    clear hW hg hb
    replace C_12 := Lib.hid (show g3 < g_ab by have h1 := C_12.out; have h2 := G_g_ab.out; omega)
    clear G_g_ab S_W18 B_W18
    have a0 := x_ab.out.cell0
    have a1 := x_ab.out.cell1
    have k0 := xb.out.cell0
    have k1 := xb.out.cell1
    go_wp2_with fail
    refine (divide_Exact _ _ (X * Y) Y _ HAB.out HB.out HM.out.1 (by have := HL.out.2.1; omega) H0.out (.inl (by have := HL.out.2.1; omega))).mono ?_
    rintro e w19 ⟨p, rfl, hp, hb⟩
    rw [Int.mul_tmod_left, if_pos rfl, Int.mul_tdiv_cancel _ H0.out] at hp
    rw [Int.mul_tmod_left, decide_eq_true rfl]
    obtain ⟨bx1, Ax1, lx1, cx1, rfl, HX1⟩ := hp.rawV.open
    replace HX1 := Lib.hid HX1.out.int
    replace HA := Lib.hid (HA.out.stay hb)
    replace HB := Lib.hid (HB.out.stay hb)
    replace HC := Lib.hid (HC.out.stay hb)
    replace B := Lib.hid (B.out.stay hb)
    replace xa := Lib.hid (xa.out.stay hb)
    replace xb := Lib.hid (xb.out.stay hb)
    replace xc := Lib.hid (xc.out.stay hb)
    replace HAB := Lib.hid (HAB.out.stay hb)
    replace x_ab := Lib.hid (x_ab.out.stay hb)
    clear hb a0 a1 k0 k1 hp
    go_upto_region 20 with (fail)
    have C_13 := Lib.hid x_ab.out.lt
    obtain ⟨W19, g_x, hW, hg, x_x, G_g_x, S_W19, hb⟩ := boxH w19 (.bool bx1) (.slice Ax1 lx1 cx1)
    rw [hW, hg]
    replace HA := Lib.hid (HA.out.stay hb)
    replace HB := Lib.hid (HB.out.stay hb)
    replace HC := Lib.hid (HC.out.stay hb)
    replace B := Lib.hid (B.out.stay hb)
    replace xa := Lib.hid (xa.out.stay hb)
    replace xb := Lib.hid (xb.out.stay hb)
    replace xc := Lib.hid (xc.out.stay hb)
    replace HAB := Lib.hid (HAB.out.stay hb)
    replace x_ab := Lib.hid (x_ab.out.stay hb)
    replace HX1 := Lib.hid (HX1.out.stay hb)
    have B_W19 := Lib.hid (show Since w19 W19 from hb)
    clear hW hg hb
    replace C_13 := Lib.hid (show g_ab < g_x by have h1 := C_13.out; have h2 := G_g_x.out; omega)
    clear G_g_x S_W19 B_W19
    have a0 := x_x.out.cell0
    have a1 := x_x.out.cell1
    have k0 := xa.out.cell0
    have k1 := xa.out.cell1
    go_wp2_with fail
    refine (kit_raw _ _ _ _ _ HX1.out.raw HA.out.raw (by show lc X.natAbs ≤ _; have := HL.out.1; omega)).mono ?_
    rintro e w20 ⟨rfl, hb⟩
    rw [decide_eq_true rfl]
    replace HA := Lib.hid (HA.out.stay hb)
    replace HB := Lib.hid (HB.out.stay hb)
    replace HC := Lib.hid (HC.out.stay hb)
    replace B := Lib.hid (B.out.stay hb)
    replace xa := Lib.hid (xa.out.stay hb)
    replace xb := Lib.hid (xb.out.stay hb)
    replace xc := Lib.hid (xc.out.stay hb)
    replace HAB := Lib.hid (HAB.out.stay hb)
    replace x_ab := Lib.hid (x_ab.out.stay hb)
    replace HX1 := Lib.hid (HX1.out.stay hb)
    replace x_x := Lib.hid (x_x.out.stay hb)
    clear hb a0 a1 k0 k1
    clear HAB HX1 x_ab x_x
    have a0 := xb.out.cell0
    have a1 := xb.out.cell1
    go_upto_region 23 with (fail)
    obtain ⟨w21, hw21⟩ : ∃ w0, w0 = w20 := ⟨_, rfl⟩
    rw [← hw21]
    rw [← hw21] at HA HB HC B xa xb xc
    clear hw21 a0 a1
    have C_14 := Lib.hid xc.out.lt
    obtain ⟨W21, g_m, hW, hg, x_m, G_g_m, S_W21, hb⟩ := boxH w21 (.bool b2) (.slice A2 l2 c2)
    rw [hW, hg]
    replace HA := Lib.hid (HA.out.stay hb)
    replace HB := Lib.hid (HB.out.stay hb)
    replace HC := Lib.hid (HC.out.stay hb)
    replace B := Lib.hid (B.out.stay hb)
    replace xa := Lib.hid (xa.out.stay hb)
    replace xb := Lib.hid (xb.out.stay hb)
    replace xc := Lib.hid (xc.out.stay hb)
    have B_W21 := Lib.hid (show Since w21 W21 from hb)
    clear hW hg hb
    replace C_14 := Lib.hid (show g3 < g_m by have h1 := C_14.out; have h2 := G_g_m.out; omega)
    clear G_g_m S_W21 B_W21
    have u0 := x_m.out.cell0
    have uf := x_m.out.free
    go_upto_region 24 with (fail)
    clear u0 uf
    obtain ⟨Wm, hWm, ym, ppm⟩ := x_m.out.write0 (.bool false)
    rw [hWm]
    have HMM := Lib.hid HB.out.abs
    replace HA := Lib.hid (HA.out.put ppm)
    replace HB := Lib.hid (HB.out.put ppm)
    replace HC := Lib.hid (HC.out.put ppm)
    replace HMM := Lib.hid (HMM.out.put ppm)
    replace xa := Lib.hid (xa.out.put ppm (Nat.ne_of_lt (Nat.lt_trans (Nat.lt_trans (K1.out) K2.out) C_14.out)))
    replace xb := Lib.hid (xb.out.put ppm (Nat.ne_of_lt (Nat.lt_trans (K2.out) C_14.out)))
    replace xc := Lib.hid (xc.out.put ppm (Nat.ne_of_lt (C_14.out)))
    replace B := Lib.hid (B.out.put ppm (Nat.le_trans HBASE.out (Nat.le_of_lt (Nat.lt_trans (Nat.lt_trans (K1.out) K2.out) C_14.out))))
    clear x_m
    have x_m := ym
    clear ym hWm ppm HB xb
    obtain ⟨Z, hZ⟩ : ∃ Z : Int, (Y.natAbs : Int) = Z := ⟨_, rfl⟩
    have HZ := Lib.hid (show 0 < Z ∧ lc Z.natAbs ≤ 60 from ⟨by have := H0.out; omega, by rw [← hZ, Int.natAbs_natCast]; exact HL.out.2.1⟩)
    rw [hZ] at HMM
    clear hZ
    have a0 := xa.out.cell0
    have a1 := xa.out.cell1
    have k0 := x_m.out.cell0
    have k1 := x_m.out.cell1
    go_wp2_with fail
    refine (divide_Mod _ _ X Z _ HA.out HMM.out (by have := HL.out.1; omega) (by have := HZ.out.2; omega) (by have := HZ.out.1; omega) (.inl (by have := HZ.out.2; omega))).mono ?_
    rintro e w23 ⟨p, rfl, hp, hb⟩
    rw [mod_pos HZ.out.1] at hp
    rw [modE_pos HZ.out.1]
    obtain ⟨bam23, Aam23, lam23, cam23, rfl, HAM⟩ := hp.rawV.open
    replace HAM := Lib.hid HAM.out.int
    replace HA := Lib.hid (HA.out.stay hb)
    replace HC := Lib.hid (HC.out.stay hb)
    replace B := Lib.hid (B.out.stay hb)
    replace xa := Lib.hid (xa.out.stay hb)
    replace xc := Lib.hid (xc.out.stay hb)
    replace x_m := Lib.hid (x_m.out.stay hb)
    replace HMM := Lib.hid (HMM.out.stay hb)
    clear hb a0 a1 k0 k1 hp
    go_upto_region 25 with (fail)
    have C_15 := Lib.hid x_m.out.lt
    obtain ⟨W23, g_am, hW, hg, x_am, G_g_am, S_W23, hb⟩ := boxH w23 (.bool bam23) (.slice Aam23 lam23 cam23)
    rw [hW, hg]
    replace HA := Lib.hid (HA.out.stay hb)
    replace HC := Lib.hid (HC.out.stay hb)
    replace B := Lib.hid (B.out.stay hb)
    replace xa := Lib.hid (xa.out.stay hb)
    replace xc := Lib.hid (xc.out.stay hb)
    replace x_m := Lib.hid (x_m.out.stay hb)
    replace HMM := Lib.hid (HMM.out.stay hb)
    replace HAM := Lib.hid (HAM.out.stay hb)
    have B_W23 := Lib.hid (show Since w23 W23 from hb)
    clear hW hg hb
    replace C_15 := Lib.hid (show g_m < g_am by have h1 := C_15.out; have h2 := G_g_am.out; omega)
    clear G_g_am S_W23 B_W23
    have a0 := xc.out.cell0
    have a1 := xc.out.cell1
    have k0 := x_m.out.cell0
    have k1 := x_m.out.cell1
    go_wp2_with fail
    refine (divide_Mod _ _ U Z _ HC.out HMM.out (by have := HL.out.2.2; omega) (by have := HZ.out.2; omega) (by have := HZ.out.1; omega) (.inl (by have := HZ.out.2; omega))).mono ?_
    rintro e w24 ⟨p, rfl, hp, hb⟩
    rw [mod_pos HZ.out.1] at hp
    rw [modE_pos HZ.out.1]
    obtain ⟨bcm24, Acm24, lcm24, ccm24, rfl, HCM⟩ := hp.rawV.open
    replace HCM := Lib.hid HCM.out.int
    replace HA := Lib.hid (HA.out.stay hb)
    replace HC := Lib.hid (HC.out.stay hb)
    replace B := Lib.hid (B.out.stay hb)
    replace xa := Lib.hid (xa.out.stay hb)
    replace xc := Lib.hid (xc.out.stay hb)
    replace x_m := Lib.hid (x_m.out.stay hb)
    replace HMM := Lib.hid (HMM.out.stay hb)
    replace HAM := Lib.hid (HAM.out.stay hb)
    replace x_am := Lib.hid (x_am.out.stay hb)
    clear hb a0 a1 k0 k1 hp
    go_upto_region 26 with (fail)
    have C_16 := Lib.hid x_am.out.lt
    obtain ⟨W24, g_cm, hW, hg, x_cm, G_g_cm, S_W24, hb⟩ := boxH w24 (.bool bcm24) (.slice Acm24 lcm24 ccm24)
    rw [hW, hg]
    replace HA := Lib.hid (HA.out.stay hb)
    replace HC := Lib.hid (HC.out.stay hb)
    replace B := Lib.hid (B.out.stay hb)
    replace xa := Lib.hid (xa.out.stay hb)
    replace xc := Lib.hid (xc.out.stay hb)
    replace x_m := Lib.hid (x_m.out.stay hb)
    replace HMM := Lib.hid (HMM.out.stay hb)
    replace HAM := Lib.hid (HAM.out.stay hb)
    replace x_am := Lib.hid (x_am.out.stay hb)
    replace HCM := Lib.hid (HCM.out.stay hb)
    have B_W24 := Lib.hid (show Since w24 W24 from hb)
    clear hW hg hb
    replace C_16 := Lib.hid (show g_am < g_cm by have h1 := C_16.out; have h2 := G_g_cm.out; omega)
    clear G_g_cm S_W24 B_W24
    have HF := Lib.hid (turned_sizes HL.out.1 HL.out.2.2 HZ.out.1 HZ.out.2)
    have a0 := xa.out.cell0
    have a1 := xa.out.cell1
    have k0 := xc.out.cell0
    have k1 := xc.out.cell1
    go_wp2_with fail
    refine (limb_Add _ _ X U _ HA.out HC.out (by have := HL.out.1; omega) (by have := HL.out.2.2; omega)).mono ?_
    rintro e w25 ⟨p, rfl, hp, hb⟩
    rw [longR_ok (HF.out.2.2.1)] at hp
    rw [longE_ok (HF.out.2.2.1)]
    obtain ⟨bsum25, Asum25, lsum25, csum25, rfl, HSU⟩ := hp.rawV.open
    replace HSU := Lib.hid HSU.out.int
    replace HA := Lib.hid (HA.out.stay hb)
    replace HC := Lib.hid (HC.out.stay hb)
    replace B := Lib.hid (B.out.stay hb)
    replace xa := Lib.hid (xa.out.stay hb)
    replace xc := Lib.hid (xc.out.stay hb)
    replace x_m := Lib.hid (x_m.out.stay hb)
    replace HMM := Lib.hid (HMM.out.stay hb)
    replace HAM := Lib.hid (HAM.out.stay hb)
    replace x_am := Lib.hid (x_am.out.stay hb)
    replace HCM := Lib.hid (HCM.out.stay hb)
    replace x_cm := Lib.hid (x_cm.out.stay hb)
    clear hb a0 a1 k0 k1 hp
    go_upto_region 27 with (fail)
    have C_17 := Lib.hid x_cm.out.lt
    obtain ⟨W25, g_sum, hW, hg, x_sum, G_g_sum, S_W25, hb⟩ := boxH w25 (.bool bsum25) (.slice Asum25 lsum25 csum25)
    rw [hW, hg]
    replace HA := Lib.hid (HA.out.stay hb)
    replace HC := Lib.hid (HC.out.stay hb)
    replace B := Lib.hid (B.out.stay hb)
    replace xa := Lib.hid (xa.out.stay hb)
    replace xc := Lib.hid (xc.out.stay hb)
    replace x_m := Lib.hid (x_m.out.stay hb)
    replace HMM := Lib.hid (HMM.out.stay hb)
    replace HAM := Lib.hid (HAM.out.stay hb)
    replace x_am := Lib.hid (x_am.out.stay hb)
    replace HCM := Lib.hid (HCM.out.stay hb)
    replace x_cm := Lib.hid (x_cm.out.stay hb)
    replace HSU := Lib.hid (HSU.out.stay hb)
    have B_W25 := Lib.hid (show Since w25 W25 from hb)
    clear hW hg hb
    replace C_17 := Lib.hid (show g_cm < g_sum by have h1 := C_17.out; have h2 := G_g_sum.out; omega)
    clear G_g_sum S_W25 B_W25
    have a0 := x_am.out.cell0
    have a1 := x_am.out.cell1
    have k0 := x_cm.out.cell0
    have k1 := x_cm.out.cell1
    go_wp2_with fail
    refine (limb_Add _ _ (X.fmod Z) (U.fmod Z) _ HAM.out HCM.out (by have := HF.out.1; omega) (by have := HF.out.2.1; omega)).mono ?_
    rintro e w26 ⟨p, rfl, hp, hb⟩
    rw [longR_ok (HF.out.2.2.2.1)] at hp
    rw [longE_ok (HF.out.2.2.2.1)]
    obtain ⟨bless26, Aless26, lless26, cless26, rfl, HLE⟩ := hp.rawV.open
    replace HLE := Lib.hid HLE.out.int
    replace HA := Lib.hid (HA.out.stay hb)
    replace HC := Lib.hid (HC.out.stay hb)
    replace B := Lib.hid (B.out.stay hb)
    replace xa := Lib.hid (xa.out.stay hb)
    replace xc := Lib.hid (xc.out.stay hb)
    replace x_m := Lib.hid (x_m.out.stay hb)
    replace HMM := Lib.hid (HMM.out.stay hb)
    replace HAM := Lib.hid (HAM.out.stay hb)
    replace x_am := Lib.hid (x_am.out.stay hb)
    replace HCM := Lib.hid (HCM.out.stay hb)
    replace x_cm := Lib.hid (x_cm.out.stay hb)
    replace HSU := Lib.hid (HSU.out.stay hb)
    replace x_sum := Lib.hid (x_sum.out.stay hb)
    clear hb a0 a1 k0 k1 hp
    go_upto_region 28 with (fail)
    have C_18 := Lib.hid x_sum.out.lt
    obtain ⟨W26, g_less, hW, hg, x_less, G_g_less, S_W26, hb⟩ := boxH w26 (.bool bless26) (.slice Aless26 lless26 cless26)
    rw [hW, hg]
    replace HA := Lib.hid (HA.out.stay hb)
    replace HC := Lib.hid (HC.out.stay hb)
    replace B := Lib.hid (B.out.stay hb)
    replace xa := Lib.hid (xa.out.stay hb)
    replace xc := Lib.hid (xc.out.stay hb)
    replace x_m := Lib.hid (x_m.out.stay hb)
    replace HMM := Lib.hid (HMM.out.stay hb)
    replace HAM := Lib.hid (HAM.out.stay hb)
    replace x_am := Lib.hid (x_am.out.stay hb)
    replace HCM := Lib.hid (HCM.out.stay hb)
    replace x_cm := Lib.hid (x_cm.out.stay hb)
    replace HSU := Lib.hid (HSU.out.stay hb)
    replace x_sum := Lib.hid (x_sum.out.stay hb)
    replace HLE := Lib.hid (HLE.out.stay hb)
    have B_W26 := Lib.hid (show Since w26 W26 from hb)
    clear hW hg hb
    replace C_18 := Lib.hid (show g_sum < g_less by have h1 := C_18.out; have h2 := G_g_less.out; omega)
    clear G_g_less S_W26 B_W26
    have a0 := x_sum.out.cell0
    have a1 := x_sum.out.cell1
    have k0 := x_m.out.cell0
    have k1 := x_m.out.cell1
    go_wp2_with fail
    refine (divide_Mod _ _ (X + U) Z _ HSU.out HMM.out (HF.out.2.2.1) (by have := HZ.out.2; omega) (by have := HZ.out.1; omega) (.inl (by have := HZ.out.2; omega))).mono ?_
    rintro e w27 ⟨p, rfl, hp, hb⟩
    rw [mod_pos HZ.out.1] at hp
    rw [modE_pos HZ.out.1]
    obtain ⟨bu27, Au27, lu27, cu27, rfl, HU1⟩ := hp.rawV.open
    replace HU1 := Lib.hid HU1.out.int
    replace HA := Lib.hid (HA.out.stay hb)
    replace HC := Lib.hid (HC.out.stay hb)
    replace B := Lib.hid (B.out.stay hb)
    replace xa := Lib.hid (xa.out.stay hb)
    replace xc := Lib.hid (xc.out.stay hb)
    replace x_m := Lib.hid (x_m.out.stay hb)
    replace HMM := Lib.hid (HMM.out.stay hb)
    replace HAM := Lib.hid (HAM.out.stay hb)
    replace x_am := Lib.hid (x_am.out.stay hb)
    replace HCM := Lib.hid (HCM.out.stay hb)
    replace x_cm := Lib.hid (x_cm.out.stay hb)
    replace HSU := Lib.hid (HSU.out.stay hb)
    replace x_sum := Lib.hid (x_sum.out.stay hb)
    replace HLE := Lib.hid (HLE.out.stay hb)
    replace x_less := Lib.hid (x_less.out.stay hb)
    clear hb a0 a1 k0 k1 hp
    go_upto_region 29 with (fail)
    have C_19 := Lib.hid x_less.out.lt
    obtain ⟨W27, g_u, hW, hg, x_u, G_g_u, S_W27, hb⟩ := boxH w27 (.bool bu27) (.slice Au27 lu27 cu27)
    rw [hW, hg]
    replace HA := Lib.hid (HA.out.stay hb)
    replace HC := Lib.hid (HC.out.stay hb)
    replace B := Lib.hid (B.out.stay hb)
    replace xa := Lib.hid (xa.out.stay hb)
    replace xc := Lib.hid (xc.out.stay hb)
    replace x_m := Lib.hid (x_m.out.stay hb)
    replace HMM := Lib.hid (HMM.out.stay hb)
    replace HAM := Lib.hid (HAM.out.stay hb)
    replace x_am := Lib.hid (x_am.out.stay hb)
    replace HCM := Lib.hid (HCM.out.stay hb)
    replace x_cm := Lib.hid (x_cm.out.stay hb)
    replace HSU := Lib.hid (HSU.out.stay hb)
    replace x_sum := Lib.hid (x_sum.out.stay hb)
    replace HLE := Lib.hid (HLE.out.stay hb)
    replace x_less := Lib.hid (x_less.out.stay hb)
    replace HU1 := Lib.hid (HU1.out.stay hb)
    have B_W27 := Lib.hid (show Since w27 W27 from hb)
    clear hW hg hb
    replace C_19 := Lib.hid (show g_less < g_u by have h1 := C_19.out; have h2 := G_g_u.out; omega)
    clear G_g_u S_W27 B_W27
    have a0 := x_less.out.cell0
    have a1 := x_less.out.cell1
    have k0 := x_m.out.cell0
    have k1 := x_m.out.cell1
    go_wp2_with fail
    refine (divide_Mod _ _ (X.fmod Z + U.fmod Z) Z _ HLE.out HMM.out (HF.out.2.2.2.1) (by have := HZ.out.2; omega) (by have := HZ.out.1; omega) (.inl (by have := HZ.out.2; omega))).mono ?_
    rintro e w28 ⟨p, rfl, hp, hb⟩
    rw [mod_pos HZ.out.1] at hp
    rw [modE_pos HZ.out.1]
    obtain ⟨bv28, Av28, lv28, cv28, rfl, HV1⟩ := hp.rawV.open
    replace HV1 := Lib.hid HV1.out.int
    replace HA := Lib.hid (HA.out.stay hb)
    replace HC := Lib.hid (HC.out.stay hb)
    replace B := Lib.hid (B.out.stay hb)
    replace xa := Lib.hid (xa.out.stay hb)
    replace xc := Lib.hid (xc.out.stay hb)
    replace x_m := Lib.hid (x_m.out.stay hb)
    replace HMM := Lib.hid (HMM.out.stay hb)
    replace HAM := Lib.hid (HAM.out.stay hb)
    replace x_am := Lib.hid (x_am.out.stay hb)
    replace HCM := Lib.hid (HCM.out.stay hb)
    replace x_cm := Lib.hid (x_cm.out.stay hb)
    replace HSU := Lib.hid (HSU.out.stay hb)
    replace x_sum := Lib.hid (x_sum.out.stay hb)
    replace HLE := Lib.hid (HLE.out.stay hb)
    replace x_less := Lib.hid (x_less.out.stay hb)
    replace HU1 := Lib.hid (HU1.out.stay hb)
    replace x_u := Lib.hid (x_u.out.stay hb)
    clear hb a0 a1 k0 k1 hp
    go_upto_region 30 with (fail)
    have C_20 := Lib.hid x_u.out.lt
    obtain ⟨W28, g_v, hW, hg, x_v, G_g_v, S_W28, hb⟩ := boxH w28 (.bool bv28) (.slice Av28 lv28 cv28)
    rw [hW, hg]
    replace HA := Lib.hid (HA.out.stay hb)
    replace HC := Lib.hid (HC.out.stay hb)
    replace B := Lib.hid (B.out.stay hb)
    replace xa := Lib.hid (xa.out.stay hb)
    replace xc := Lib.hid (xc.out.stay hb)
    replace x_m := Lib.hid (x_m.out.stay hb)
    replace HMM := Lib.hid (HMM.out.stay hb)
    replace HAM := Lib.hid (HAM.out.stay hb)
    replace x_am := Lib.hid (x_am.out.stay hb)
    replace HCM := Lib.hid (HCM.out.stay hb)
    replace x_cm := Lib.hid (x_cm.out.stay hb)
    replace HSU := Lib.hid (HSU.out.stay hb)
    replace x_sum := Lib.hid (x_sum.out.stay hb)
    replace HLE := Lib.hid (HLE.out.stay hb)
    replace x_less := Lib.hid (x_less.out.stay hb)
    replace HU1 := Lib.hid (HU1.out.stay hb)
    replace x_u := Lib.hid (x_u.out.stay hb)
    replace HV1 := Lib.hid (HV1.out.stay hb)
    have B_W28 := Lib.hid (show Since w28 W28 from hb)
    clear hW hg hb
    replace C_20 := Lib.hid (show g_u < g_v by have h1 := C_20.out; have h2 := G_g_v.out; omega)
    clear G_g_v S_W28 B_W28
    rw [← fmod_sum] at HV1
    have a0 := x_u.out.cell0
    have a1 := x_u.out.cell1
    have k0 := x_v.out.cell0
    have k1 := x_v.out.cell1
    go_wp2_with fail
    refine (kit_raw _ _ _ _ _ HU1.out.raw HV1.out.raw (HF.out.2.2.2.2.2.2.1)).mono ?_
    rintro e w29 ⟨rfl, hb⟩
    rw [decide_eq_true rfl]
    replace HA := Lib.hid (HA.out.stay hb)
    replace HC := Lib.hid (HC.out.stay hb)
    replace B := Lib.hid (B.out.stay hb)
    replace xa := Lib.hid (xa.out.stay hb)
    replace xc := Lib.hid (xc.out.stay hb)
    replace x_m := Lib.hid (x_m.out.stay hb)
    replace HMM := Lib.hid (HMM.out.stay hb)
    replace HAM := Lib.hid (HAM.out.stay hb)
    replace x_am := Lib.hid (x_am.out.stay hb)
    replace HCM := Lib.hid (HCM.out.stay hb)
    replace x_cm := Lib.hid (x_cm.out.stay hb)
    replace HSU := Lib.hid (HSU.out.stay hb)
    replace x_sum := Lib.hid (x_sum.out.stay hb)
    replace HLE := Lib.hid (HLE.out.stay hb)
    replace x_less := Lib.hid (x_less.out.stay hb)
    replace HU1 := Lib.hid (HU1.out.stay hb)
    replace x_u := Lib.hid (x_u.out.stay hb)
    replace HV1 := Lib.hid (HV1.out.stay hb)
    replace x_v := Lib.hid (x_v.out.stay hb)
    clear hb a0 a1 k0 k1
    clear HU1 HV1 HSU HLE x_sum x_less
    have a0 := xa.out.cell0
    have a1 := xa.out.cell1
    have k0 := xc.out.cell0
    have k1 := xc.out.cell1
    go_wp2_with fail
    refine (times_Mul_any _ _ X U _ HA.out HC.out (by have := HL.out.1; omega) (by have := HL.out.2.2; omega)).mono ?_
    rintro e w30 ⟨p, rfl, hp, hb⟩
    rw [longR_ok (HF.out.2.2.2.2.1)] at hp
    rw [longE_ok (HF.out.2.2.2.2.1)]
    obtain ⟨bproduct30, Aproduct30, lproduct30, cproduct30, rfl, HPR⟩ := hp.rawV.open
    replace HPR := Lib.hid HPR.out.int
    replace HA := Lib.hid (HA.out.stay hb)
    replace HC := Lib.hid (HC.out.stay hb)
    replace B := Lib.hid (B.out.stay hb)
    replace xa := Lib.hid (xa.out.stay hb)
    replace xc := Lib.hid (xc.out.stay hb)
    replace x_m := Lib.hid (x_m.out.stay hb)
    replace HMM := Lib.hid (HMM.out.stay hb)
    replace HAM := Lib.hid (HAM.out.stay hb)
    replace x_am := Lib.hid (x_am.out.stay hb)
    replace HCM := Lib.hid (HCM.out.stay hb)
    replace x_cm := Lib.hid (x_cm.out.stay hb)
    replace x_u := Lib.hid (x_u.out.stay hb)
    replace x_v := Lib.hid (x_v.out.stay hb)
    clear hb a0 a1 k0 k1 hp
    go_upto_region 33 with (fail)
    have C_21 := Lib.hid x_v.out.lt
    obtain ⟨W30, g_product, hW, hg, x_product, G_g_product, S_W30, hb⟩ := boxH w30 (.bool bproduct30) (.slice Aproduct30 lproduct30 cproduct30)
    rw [hW, hg]
    replace HA := Lib.hid (HA.out.stay hb)
    replace HC := Lib.hid (HC.out.stay hb)
    replace B := Lib.hid (B.out.stay hb)
    replace xa := Lib.hid (xa.out.stay hb)
    replace xc := Lib.hid (xc.out.stay hb)
    replace x_m := Lib.hid (x_m.out.stay hb)
    replace HMM := Lib.hid (HMM.out.stay hb)
    replace HAM := Lib.hid (HAM.out.stay hb)
    replace x_am := Lib.hid (x_am.out.stay hb)
    replace HCM := Lib.hid (HCM.out.stay hb)
    replace x_cm := Lib.hid (x_cm.out.stay hb)
    replace x_u := Lib.hid (x_u.out.stay hb)
    replace x_v := Lib.hid (x_v.out.stay hb)
    replace HPR := Lib.hid (HPR.out.stay hb)
    have B_W30 := Lib.hid (show Since w30 W30 from hb)
    clear hW hg hb
    replace C_21 := Lib.hid (show g_v < g_product by have h1 := C_21.out; have h2 := G_g_product.out; omega)
    clear G_g_product S_W30 B_W30
    have a0 := x_am.out.cell0
    have a1 := x_am.out.cell1
    have k0 := x_cm.out.cell0
    have k1 := x_cm.out.cell1
    go_wp2_with fail
    refine (times_Mul_any _ _ (X.fmod Z) (U.fmod Z) _ HAM.out HCM.out (by have := HF.out.1; omega) (by have := HF.out.2.1; omega)).mono ?_
    rintro e w31 ⟨p, rfl, hp, hb⟩
    rw [longR_ok (HF.out.2.2.2.2.2.1)] at hp
    rw [longE_ok (HF.out.2.2.2.2.2.1)]
    obtain ⟨bshort31, Ashort31, lshort31, cshort31, rfl, HSH⟩ := hp.rawV.open
    replace HSH := Lib.hid HSH.out.int
    replace HA := Lib.hid (HA.out.stay hb)
    replace HC := Lib.hid (HC.out.stay hb)
    replace B := Lib.hid (B.out.stay hb)
    replace xa := Lib.hid (xa.out.stay hb)
    replace xc := Lib.hid (xc.out.stay hb)
    replace x_m := Lib.hid (x_m.out.stay hb)
    replace HMM := Lib.hid (HMM.out.stay hb)
    replace HAM := Lib.hid (HAM.out.stay hb)
    replace x_am := Lib.hid (x_am.out.stay hb)
    replace HCM := Lib.hid (HCM.out.stay hb)
    replace x_cm := Lib.hid (x_cm.out.stay hb)
    replace x_u := Lib.hid (x_u.out.stay hb)
    replace x_v := Lib.hid (x_v.out.stay hb)
    replace HPR := Lib.hid (HPR.out.stay hb)
    replace x_product := Lib.hid (x_product.out.stay hb)
    clear hb a0 a1 k0 k1 hp
    go_upto_region 34 with (fail)
    have C_22 := Lib.hid x_product.out.lt
    obtain ⟨W31, g_short, hW, hg, x_short, G_g_short, S_W31, hb⟩ := boxH w31 (.bool bshort31) (.slice Ashort31 lshort31 cshort31)
    rw [hW, hg]
    replace HA := Lib.hid (HA.out.stay hb)
    replace HC := Lib.hid (HC.out.stay hb)
    replace B := Lib.hid (B.out.stay hb)
    replace xa := Lib.hid (xa.out.stay hb)
    replace xc := Lib.hid (xc.out.stay hb)
    replace x_m := Lib.hid (x_m.out.stay hb)
    replace HMM := Lib.hid (HMM.out.stay hb)
    replace HAM := Lib.hid (HAM.out.stay hb)
    replace x_am := Lib.hid (x_am.out.stay hb)
    replace HCM := Lib.hid (HCM.out.stay hb)
    replace x_cm := Lib.hid (x_cm.out.stay hb)
    replace x_u := Lib.hid (x_u.out.stay hb)
    replace x_v := Lib.hid (x_v.out.stay hb)
    replace HPR := Lib.hid (HPR.out.stay hb)
    replace x_product := Lib.hid (x_product.out.stay hb)
    replace HSH := Lib.hid (HSH.out.stay hb)
    have B_W31 := Lib.hid (show Since w31 W31 from hb)
    clear hW hg hb
    replace C_22 := Lib.hid (show g_product < g_short by have h1 := C_22.out; have h2 := G_g_short.out; omega)
    clear G_g_short S_W31 B_W31
    have a0 := x_product.out.cell0
    have a1 := x_product.out.cell1
    have k0 := x_m.out.cell0
    have k1 := x_m.out.cell1
    go_wp2_with fail
    refine (divide_Mod _ _ (X * U) Z _ HPR.out HMM.out (HF.out.2.2.2.2.1) (by have := HZ.out.2; omega) (by have := HZ.out.1; omega) (.inl (by have := HZ.out.2; omega))).mono ?_
    rintro e w32 ⟨p, rfl, hp, hb⟩
    rw [mod_pos HZ.out.1] at hp
    rw [modE_pos HZ.out.1]
    obtain ⟨bu32, Au32, lu32, cu32, rfl, HU1⟩ := hp.rawV.open
    replace HU1 := Lib.hid HU1.out.int
    replace HA := Lib.hid (HA.out.stay hb)
    replace HC := Lib.hid (HC.out.stay hb)
    replace B := Lib.hid (B.out.stay hb)
    replace xa := Lib.hid (xa.out.stay hb)
    replace xc := Lib.hid (xc.out.stay hb)
    replace x_m := Lib.hid (x_m.out.stay hb)
    replace HMM := Lib.hid (HMM.out.stay hb)
    replace HAM := Lib.hid (HAM.out.stay hb)
    replace x_am := Lib.hid (x_am.out.stay hb)
    replace HCM := Lib.hid (HCM.out.stay hb)
    replace x_cm := Lib.hid (x_cm.out.stay hb)
    replace x_u := Lib.hid (x_u.out.stay hb)
    replace x_v := Lib.hid (x_v.out.stay hb)
    replace HPR := Lib.hid (HPR.out.stay hb)
    replace x_product := Lib.hid (x_product.out.stay hb)
    replace HSH := Lib.hid (HSH.out.stay hb)
    replace x_short := Lib.hid (x_short.out.stay hb)
    clear hb a0 a1 k0 k1 hp
    have u0 := x_u.out.cell0
    have u1 := x_u.out.cell1
    have uf := x_u.out.free
    go_upto_region 35 with (fail)
    clear u0 u1 uf
    obtain ⟨Wp33, hWp33, y33, pp33⟩ := x_u.out.write (.bool bu32) (.slice Au32 lu32 cu32)
    rw [hWp33]
    replace HA := Lib.hid (HA.out.put pp33)
    replace HC := Lib.hid (HC.out.put pp33)
    replace HMM := Lib.hid (HMM.out.put pp33)
    replace HAM := Lib.hid (HAM.out.put pp33)
    replace HCM := Lib.hid (HCM.out.put pp33)
    replace HPR := Lib.hid (HPR.out.put pp33)
    replace HSH := Lib.hid (HSH.out.put pp33)
    replace HU1 := Lib.hid (HU1.out.put pp33)
    replace xa := Lib.hid (xa.out.put pp33 (Nat.ne_of_lt (Nat.lt_trans (Nat.lt_trans (Nat.lt_trans (Nat.lt_trans (Nat.lt_trans (Nat.lt_trans (Nat.lt_trans (K1.out) K2.out) C_14.out) C_15.out) C_16.out) C_17.out) C_18.out) C_19.out)))
    replace xc := Lib.hid (xc.out.put pp33 (Nat.ne_of_lt (Nat.lt_trans (Nat.lt_trans (Nat.lt_trans (Nat.lt_trans (Nat.lt_trans (C_14.out) C_15.out) C_16.out) C_17.out) C_18.out) C_19.out)))
    replace x_m := Lib.hid (x_m.out.put pp33 (Nat.ne_of_lt (Nat.lt_trans (Nat.lt_trans (Nat.lt_trans (Nat.lt_trans (C_15.out) C_16.out) C_17.out) C_18.out) C_19.out)))
    replace x_am := Lib.hid (x_am.out.put pp33 (Nat.ne_of_lt (Nat.lt_trans (Nat.lt_trans (Nat.lt_trans (C_16.out) C_17.out) C_18.out) C_19.out)))
    replace x_cm := Lib.hid (x_cm.out.put pp33 (Nat.ne_of_lt (Nat.lt_trans (Nat.lt_trans (C_17.out) C_18.out) C_19.out)))
    replace x_v := Lib.hid (x_v.out.put pp33 (Nat.ne_of_gt (C_20.out)))
    replace x_product := Lib.hid (x_product.out.put pp33 (Nat.ne_of_gt (Nat.lt_trans (C_20.out) C_21.out)))
    replace x_short := Lib.hid (x_short.out.put pp33 (Nat.ne_of_gt (Nat.lt_trans (Nat.lt_trans (C_20.out) C_21.out) C_22.out)))
    replace B := Lib.hid (B.out.put pp33 (Nat.le_trans HBASE.out (Nat.le_of_lt (Nat.lt_trans (Nat.lt_trans (Nat.lt_trans (Nat.lt_trans (Nat.lt_trans (Nat.lt_trans (Nat.lt_trans (K1.out) K2.out) C_14.out) C_15.out) C_16.out) C_17.out) C_18.out) C_19.out))))
    clear x_u
    have x_u := y33
    clear y33 hWp33 pp33
    have a0 := x_short.out.cell0
    have a1 := x_short.out.cell1
    have k0 := x_m.out.cell0
    have k1 := x_m.out.cell1
    go_wp2_with fail
    refine (divide_Mod _ _ (X.fmod Z * U.fmod Z) Z _ HSH.out HMM.out (HF.out.2.2.2.2.2.1) (by have := HZ.out.2; omega) (by have := HZ.out.1; omega) (.inl (by have := HZ.out.2; omega))).mono ?_
    rintro e w34 ⟨p, rfl, hp, hb⟩
    rw [mod_pos HZ.out.1] at hp
    rw [modE_pos HZ.out.1]
    obtain ⟨bv34, Av34, lv34, cv34, rfl, HV1⟩ := hp.rawV.open
    replace HV1 := Lib.hid HV1.out.int
    replace HA := Lib.hid (HA.out.stay hb)
    replace HC := Lib.hid (HC.out.stay hb)
    replace B := Lib.hid (B.out.stay hb)
    replace xa := Lib.hid (xa.out.stay hb)
    replace xc := Lib.hid (xc.out.stay hb)
    replace x_m := Lib.hid (x_m.out.stay hb)
    replace HMM := Lib.hid (HMM.out.stay hb)
    replace HAM := Lib.hid (HAM.out.stay hb)
    replace x_am := Lib.hid (x_am.out.stay hb)
    replace HCM := Lib.hid (HCM.out.stay hb)
    replace x_cm := Lib.hid (x_cm.out.stay hb)
    replace x_u := Lib.hid (x_u.out.stay hb)
    replace x_v := Lib.hid (x_v.out.stay hb)
    replace HPR := Lib.hid (HPR.out.stay hb)
    replace x_product := Lib.hid (x_product.out.stay hb)
    replace HSH := Lib.hid (HSH.out.stay hb)
    replace x_short := Lib.hid (x_short.out.stay hb)
    replace HU1 := Lib.hid (HU1.out.stay hb)
    clear hb a0 a1 k0 k1 hp
    have u0 := x_v.out.cell0
    have u1 := x_v.out.cell1
    have uf := x_v.out.free
    go_upto_region 36 with (fail)
    clear u0 u1 uf
    obtain ⟨Wp35, hWp35, y35, pp35⟩ := x_v.out.write (.bool bv34) (.slice Av34 lv34 cv34)
    rw [hWp35]
    replace HA := Lib.hid (HA.out.put pp35)
    replace HC := Lib.hid (HC.out.put pp35)
    replace HMM := Lib.hid (HMM.out.put pp35)
    replace HAM := Lib.hid (HAM.out.put pp35)
    replace HCM := Lib.hid (HCM.out.put pp35)
    replace HPR := Lib.hid (HPR.out.put pp35)
    replace HSH := Lib.hid (HSH.out.put pp35)
    replace HU1 := Lib.hid (HU1.out.put pp35)
    replace HV1 := Lib.hid (HV1.out.put pp35)
    replace xa := Lib.hid (xa.out.put pp35 (Nat.ne_of_lt (Nat.lt_trans (Nat.lt_trans (Nat.lt_trans (Nat.lt_trans (Nat.lt_trans (Nat.lt_trans (Nat.lt_trans (Nat.lt_trans (K1.out) K2.out) C_14.out) C_15.out) C_16.out) C_17.out) C_18.out) C_19.out) C_20.out)))
    replace xc := Lib.hid (xc.out.put pp35 (Nat.ne_of_lt (Nat.lt_trans (Nat.lt_trans (Nat.lt_trans (Nat.lt_trans (Nat.lt_trans (Nat.lt_trans (C_14.out) C_15.out) C_16.out) C_17.out) C_18.out) C_19.out) C_20.out)))
    replace x_m := Lib.hid (x_m.out.put pp35 (Nat.ne_of_lt (Nat.lt_trans (Nat.lt_trans (Nat.lt_trans (Nat.lt_trans (Nat.lt_trans (C_15.out) C_16.out) C_17.out) C_18.out) C_19.out) C_20.out)))
    replace x_am := Lib.hid (x_am.out.put pp35 (Nat.ne_of_lt (Nat.lt_trans (Nat.lt_trans (Nat.lt_trans (Nat.lt_trans (C_16.out) C_17.out) C_18.out) C_19.out) C_20.out)))
    replace x_cm := Lib.hid (x_cm.out.put pp35 (Nat.ne_of_lt (Nat.lt_trans (Nat.lt_trans (Nat.lt_trans (C_17.out) C_18.out) C_19.out) C_20.out)))
    replace x_u := Lib.hid (x_u.out.put pp35 (Nat.ne_of_lt (C_20.out)))
    replace x_product := Lib.hid (x_product.out.put pp35 (Nat.ne_of_gt (C_21.out)))
    replace x_short := Lib.hid (x_short.out.put pp35 (Nat.ne_of_gt (Nat.lt_trans (C_21.out) C_22.out)))
    replace B := Lib.hid (B.out.put pp35 (Nat.le_trans HBASE.out (Nat.le_of_lt (Nat.lt_trans (Nat.lt_trans (Nat.lt_trans (Nat.lt_trans (Nat.lt_trans (Nat.lt_trans (Nat.lt_trans (Nat.lt_trans (K1.out) K2.out) C_14.out) C_15.out) C_16.out) C_17.out) C_18.out) C_19.out) C_20.out))))
    clear x_v
    have x_v := y35
    clear y35 hWp35 pp35
    rw [← fmod_prod] at HV1
    have a0 := x_u.out.cell0
    have a1 := x_u.out.cell1
    have k0 := x_v.out.cell0
    have k1 := x_v.out.cell1
    go_wp2_with fail
    refine (kit_raw _ _ _ _ _ HU1.out.raw HV1.out.raw (HF.out.2.2.2.2.2.2.2)).mono ?_
    rintro e w36 ⟨rfl, hb⟩
    rw [decide_eq_true rfl]
    replace HA := Lib.hid (HA.out.stay hb)
    replace HC := Lib.hid (HC.out.stay hb)
    replace B := Lib.hid (B.out.stay hb)
    replace xa := Lib.hid (xa.out.stay hb)
    replace xc := Lib.hid (xc.out.stay hb)
    replace x_m := Lib.hid (x_m.out.stay hb)
    replace HMM := Lib.hid (HMM.out.stay hb)
    replace HAM := Lib.hid (HAM.out.stay hb)
    replace x_am := Lib.hid (x_am.out.stay hb)
    replace HCM := Lib.hid (HCM.out.stay hb)
    replace x_cm := Lib.hid (x_cm.out.stay hb)
    replace x_u := Lib.hid (x_u.out.stay hb)
    replace x_v := Lib.hid (x_v.out.stay hb)
    replace HPR := Lib.hid (HPR.out.stay hb)
    replace x_product := Lib.hid (x_product.out.stay hb)
    replace HSH := Lib.hid (HSH.out.stay hb)
    replace x_short := Lib.hid (x_short.out.stay hb)
    replace HU1 := Lib.hid (HU1.out.stay hb)
    replace HV1 := Lib.hid (HV1.out.stay hb)
    clear hb a0 a1 k0 k1
    go_wp2_with fail
    go_ret
    exact ⟨rfl, B.out⟩
end Go.Proofs.Ytonbhpadoplpkaa
