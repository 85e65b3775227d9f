import Derived.Test.YtonbhpadoplpkaaR17
import Derived.Test.YtonbhpadoplpkaaPlan3
/- The law of layer 17: of, long, awake. -/
namespace Go.Proofs.Ytonbhpadoplpkaa
open Go.RowKit Go.Deep
set_option maxRecDepth 100000 in
theorem law17_of (n : Int) (w : World) (h1 : -9223372036854775808 ≤ n) (h2 : n < 9223372036854775808) :
    Calls Try.prog 23 #[.int .i64 n] w fun e w' => ∃ v', e = .returned v' ∧ IntV w' v' n ∧ Below w.heap.size w w' := by
  have H := Lib.hid (fun W => kit_of n W h1 h2)
  clear h1 h2
  go_enter Try.func23, Try.ntmps23
  go_wp2_with fail
  obtain ⟨W0, g, hW, hg, bx, G_g, S_W0, hb⟩ := boxH w (.bool false) (.slice none 0 0)
  rw [hW, hg]

  have B_W0 := Lib.hid (show Since w W0 from hb)
  clear hW hg hb
  refine (H.out _).mono ?_
  rintro e w1 ⟨v, rfl, hv, hb⟩
  obtain ⟨b, A, l, c, rfl, HV⟩ := hv.open
  replace bx := Lib.hid (bx.out.stay hb)
  replace B_W0 := Lib.hid (B_W0.out.stay hb)
  clear hv hb
  have a0 := bx.out.cell0
  have a1 := bx.out.cell1
  have fr := bx.out.free
  have HGG := Lib.hid (show w.heap.size ≤ g by have := G_g.out; omega)
  go_wp2_with fail
  refine bodyPost_ret (results_cell_row rfl _ _ g 24 #[.bool b, (.slice A l c)] (0, 0) _ (by rfl) bx.out.store Try.underlying24 rfl (by kernel_rfl)) rfl ?_
  obtain ⟨W2, hW2, bx', p⟩ := bx.out.write (.bool b) (.slice A l c)
  rw [hW2]
  exact ⟨_, rfl, HV.out.put p, B_W0.out.put p HGG.out⟩
set_option maxRecDepth 100000 in
theorem law17_long (u v : Value) (x y : Raw) (w : World) (hu : RawV w u x) (hv : RawV w v y) :
    Calls Try.prog 9 #[u, v] w fun e w' => e = .returned (.bool (decide (200 < x.2.length) || decide (200 < y.2.length))) ∧ Below w.heap.size w w' := by
  obtain ⟨b1, A1, l1, c1, rfl, HU⟩ := hu.open
  obtain ⟨b2, A2, l2, c2, rfl, HV⟩ := hv.open
  have HP1 := Lib.hid HU.out.parts.2.1
  have HP2 := Lib.hid HV.out.parts.2.1
  clear hu hv
  rw [← HP1.out, ← HP2.out]
  by_cases h1 : 200 < l1
  · have h1I : (200 : Int) < (l1 : Int) := by omega
    have HE := Lib.hid (show (decide (200 < l1) || decide (200 < l2)) = true by rw [decide_eq_true h1, Bool.true_or])
    rw [HE.out]
    clear h1
    go_enter Try.func9, Try.ntmps9
    go_wp2_with fail
    go_ret
    exact ⟨rfl, ((Below.refl _ w).alloc (Nat.le_refl _) _).alloc (by simp) _⟩
  · have h1I : ¬ (200 : Int) < (l1 : Int) := by omega
    by_cases h2 : 200 < l2
    · have h2I : (200 : Int) < (l2 : Int) := by omega
      have HE := Lib.hid (show (decide (200 < l1) || decide (200 < l2)) = true by rw [decide_eq_true h2, Bool.or_true])
      rw [HE.out]
      clear h1 h2
      go_enter Try.func9, Try.ntmps9
      go_wp2_with fail
      go_ret
      exact ⟨rfl, ((Below.refl _ w).alloc (Nat.le_refl _) _).alloc (by simp) _⟩
    · have h2I : ¬ (200 : Int) < (l2 : Int) := by omega
      have HE := Lib.hid (show (decide (200 < l1) || decide (200 < l2)) = false by rw [decide_eq_false h1, decide_eq_false h2]; rfl)
      rw [HE.out]
      clear h1 h2
      go_enter Try.func9, Try.ntmps9
      go_wp2_with fail
      go_ret
      exact ⟨rfl, ((Below.refl _ w).alloc (Nat.le_refl _) _).alloc (by simp) _⟩
theorem lc_small {x : Int} (h : x.natAbs < W64) : lc x.natAbs ≤ 1 := lc_le.2 (by rw [Nat.pow_one]; exact h)
theorem lc_tiny {x : Int} (h : x.natAbs ≤ 9) : lc x.natAbs ≤ 4096 := Nat.le_trans (lc_small (by rw [W64_eq]; omega)) (by omega)
theorem raw_tiny {x : Int} (h : x.natAbs ≤ 9) : (rawOf x).2.length ≤ 1099511627776 := Nat.le_trans (lc_tiny h) (by omega)
set_option maxHeartbeats 2000000 in
set_option maxRecDepth 100000 in
theorem law17_awake (w : World) : Calls Try.prog 8 #[] w fun e w' => e = .returned (.bool true) ∧ Below w.heap.size w w' := by
  have B := Lib.hid (show Since w w from Below.refl _ _)
  go_enter Try.func8, Try.ntmps8
  go_wp2_with fail
  refine (law17_of (-7) _ (by omega) (by omega)).mono ?_
  rintro e w1 ⟨u1, rfl, h1, hb⟩
  obtain ⟨b1, A1, l1, c1, rfl, H1⟩ := h1.open
  replace B := Lib.hid (B.out.stay hb)
  clear h1 hb
  go_wp2_with fail
  refine (law17_of 2 _ (by omega) (by omega)).mono ?_
  rintro e w2 ⟨u2, rfl, h2, hb⟩
  obtain ⟨b2, A2, l2, c2, rfl, H2⟩ := h2.open
  replace B := Lib.hid (B.out.stay hb)
  replace H1 := Lib.hid (H1.out.stay hb)
  clear h2 hb
  go_wp2_with fail
  refine (divide_Floor _ _ (-7) 2 _ H1.out H2.out (lc_tiny (by decide)) (lc_tiny (by decide)) (by decide) (.inl (Nat.le_trans (lc_small (by rw [W64_eq]; decide)) (by omega)))).mono ?_
  rintro e w3 ⟨p3, q3, rfl, hp, hq, -, hb⟩
  rw [show (-7 : Int).fdiv 2 = -4 by decide] at hp
  rw [show (-7 : Int).fmod 2 = 1 by decide] at hq
  obtain ⟨bq, Aq, lq, cq, rfl, HQ⟩ := hp.rawV.open
  obtain ⟨br, Ar, lr, cr, rfl, HR⟩ := hq.rawV.open
  replace B := Lib.hid (B.out.stay hb)
  clear hp hq hb H1 H2
  go_upto_region 2 with (fail)
  obtain ⟨W3, gq, gr, hW, hg, hr, bxq, bxr, G_gq, S_W3, hb⟩ := boxH2 w3 (.bool bq) (.slice Aq lq cq) (.bool br) (.slice Ar lr cr)
  rw [hW, hr, hg]
  replace B := Lib.hid (B.out.stay hb)
  replace HQ := Lib.hid (HQ.out.stay hb)
  replace HR := Lib.hid (HR.out.stay hb)
  have B_W3 := Lib.hid (show Since w3 W3 from hb)
  clear hW hg hr hb
  go_wp2_with fail
  refine (law17_of (-7) _ (by omega) (by omega)).mono ?_
  rintro e w4 ⟨u4, rfl, h4, hb⟩
  obtain ⟨b4, A4, l4, c4, rfl, H4⟩ := h4.open
  replace B := Lib.hid (B.out.stay hb)
  replace HQ := Lib.hid (HQ.out.stay hb)
  replace HR := Lib.hid (HR.out.stay hb)
  replace bxq := Lib.hid (bxq.out.stay hb)
  replace bxr := Lib.hid (bxr.out.stay hb)
  clear h4 hb
  go_wp2_with fail
  refine (law17_of 2 _ (by omega) (by omega)).mono ?_
  rintro e w5 ⟨u5, rfl, h5, hb⟩
  obtain ⟨b5, A5, l5, c5, rfl, H5⟩ := h5.open
  replace B := Lib.hid (B.out.stay hb)
  replace HQ := Lib.hid (HQ.out.stay hb)
  replace HR := Lib.hid (HR.out.stay hb)
  replace bxq := Lib.hid (bxq.out.stay hb)
  replace bxr := Lib.hid (bxr.out.stay hb)
  replace H4 := Lib.hid (H4.out.stay hb)
  clear h5 hb
  go_wp2_with fail
  refine (divide_Trunc _ _ (-7) 2 _ H4.out H5.out (lc_tiny (by decide)) (lc_tiny (by decide)) (by decide) (.inl (Nat.le_trans (lc_small (by rw [W64_eq]; decide)) (by omega)))).mono ?_
  rintro e w6 ⟨p6, q6, rfl, hp, hq, -, hb⟩
  rw [show (-7 : Int).tdiv 2 = -3 by decide] at hp
  rw [show (-7 : Int).tmod 2 = -1 by decide] at hq
  obtain ⟨bp, Ap, lp, cp, rfl, HP⟩ := hp.rawV.open
  obtain ⟨bs, As, ls, cs, rfl, HS⟩ := hq.rawV.open
  replace B := Lib.hid (B.out.stay hb)
  replace HQ := Lib.hid (HQ.out.stay hb)
  replace HR := Lib.hid (HR.out.stay hb)
  replace bxq := Lib.hid (bxq.out.stay hb)
  replace bxr := Lib.hid (bxr.out.stay hb)
  clear hp hq hb H4 H5
  go_upto_region 3 with (fail)
  obtain ⟨W6, gp, gs, hW, hg, hr, bxp, bxs, G_gp, S_W6, hb⟩ := boxH2 w6 (.bool bp) (.slice Ap lp cp) (.bool bs) (.slice As ls cs)
  rw [hW, hr, hg]
  replace B := Lib.hid (B.out.stay hb)
  replace HQ := Lib.hid (HQ.out.stay hb)
  replace HR := Lib.hid (HR.out.stay hb)
  replace bxq := Lib.hid (bxq.out.stay hb)
  replace bxr := Lib.hid (bxr.out.stay hb)
  replace HP := Lib.hid (HP.out.stay hb)
  replace HS := Lib.hid (HS.out.stay hb)
  have B_W6 := Lib.hid (show Since w6 W6 from hb)
  clear hW hg hr hb
  go_wp2_with fail
  refine (law17_of 6 _ (by omega) (by omega)).mono ?_
  rintro e w7 ⟨u7, rfl, h7, hb⟩
  obtain ⟨b7, A7, l7, c7, rfl, H7⟩ := h7.open
  replace B := Lib.hid (B.out.stay hb)
  replace HQ := Lib.hid (HQ.out.stay hb)
  replace HR := Lib.hid (HR.out.stay hb)
  replace bxq := Lib.hid (bxq.out.stay hb)
  replace bxr := Lib.hid (bxr.out.stay hb)
  replace HP := Lib.hid (HP.out.stay hb)
  replace HS := Lib.hid (HS.out.stay hb)
  replace bxp := Lib.hid (bxp.out.stay hb)
  replace bxs := Lib.hid (bxs.out.stay hb)
  clear h7 hb
  go_wp2_with fail
  refine (law17_of (-3) _ (by omega) (by omega)).mono ?_
  rintro e w8 ⟨u8, rfl, h8, hb⟩
  obtain ⟨b8, A8, l8, c8, rfl, H8⟩ := h8.open
  replace B := Lib.hid (B.out.stay hb)
  replace HQ := Lib.hid (HQ.out.stay hb)
  replace HR := Lib.hid (HR.out.stay hb)
  replace bxq := Lib.hid (bxq.out.stay hb)
  replace bxr := Lib.hid (bxr.out.stay hb)
  replace HP := Lib.hid (HP.out.stay hb)
  replace HS := Lib.hid (HS.out.stay hb)
  replace bxp := Lib.hid (bxp.out.stay hb)
  replace bxs := Lib.hid (bxs.out.stay hb)
  replace H7 := Lib.hid (H7.out.stay hb)
  clear h8 hb
  go_wp2_with fail
  refine (divide_Exact _ _ 6 (-3) _ H7.out H8.out (lc_tiny (by decide)) (lc_tiny (by decide)) (by decide) (.inl (Nat.le_trans (lc_small (by rw [W64_eq]; decide)) (by omega)))).mono ?_
  rintro e w8 ⟨p8, rfl, hp, hb⟩
  rw [show (6 : Int).tmod (-3) = 0 by decide, show (6 : Int).tdiv (-3) = -2 by decide, if_pos rfl] at hp
  rw [show (6 : Int).tmod (-3) = 0 by decide, decide_eq_true rfl]
  obtain ⟨bx, Ax, lx, cx, rfl, HX⟩ := hp.rawV.open
  replace B := Lib.hid (B.out.stay hb)
  replace HQ := Lib.hid (HQ.out.stay hb)
  replace HR := Lib.hid (HR.out.stay hb)
  replace bxq := Lib.hid (bxq.out.stay hb)
  replace bxr := Lib.hid (bxr.out.stay hb)
  replace HP := Lib.hid (HP.out.stay hb)
  replace HS := Lib.hid (HS.out.stay hb)
  replace bxp := Lib.hid (bxp.out.stay hb)
  replace bxs := Lib.hid (bxs.out.stay hb)
  clear hp hb H7 H8
  go_upto_region 4 with (fail)
  obtain ⟨W8, gx, hW, hg, bxx, G_gx, S_W8, hb⟩ := boxH w8 (.bool bx) (.slice Ax lx cx)
  rw [hW, hg]
  replace B := Lib.hid (B.out.stay hb)
  replace HQ := Lib.hid (HQ.out.stay hb)
  replace HR := Lib.hid (HR.out.stay hb)
  replace bxq := Lib.hid (bxq.out.stay hb)
  replace bxr := Lib.hid (bxr.out.stay hb)
  replace HP := Lib.hid (HP.out.stay hb)
  replace HS := Lib.hid (HS.out.stay hb)
  replace bxp := Lib.hid (bxp.out.stay hb)
  replace bxs := Lib.hid (bxs.out.stay hb)
  replace HX := Lib.hid (HX.out.stay hb)
  have B_W8 := Lib.hid (show Since w8 W8 from hb)
  clear hW hg hb
  go_wp2_with fail
  refine (law17_of (-7) _ (by omega) (by omega)).mono ?_
  rintro e w9 ⟨u9, rfl, h9, hb⟩
  obtain ⟨b9, A9, l9, c9, rfl, H9⟩ := h9.open
  replace B := Lib.hid (B.out.stay hb)
  replace HQ := Lib.hid (HQ.out.stay hb)
  replace HR := Lib.hid (HR.out.stay hb)
  replace bxq := Lib.hid (bxq.out.stay hb)
  replace bxr := Lib.hid (bxr.out.stay hb)
  replace HP := Lib.hid (HP.out.stay hb)
  replace HS := Lib.hid (HS.out.stay hb)
  replace bxp := Lib.hid (bxp.out.stay hb)
  replace bxs := Lib.hid (bxs.out.stay hb)
  replace HX := Lib.hid (HX.out.stay hb)
  replace bxx := Lib.hid (bxx.out.stay hb)
  clear h9 hb
  go_wp2_with fail
  refine (law17_of 3 _ (by omega) (by omega)).mono ?_
  rintro e w10 ⟨u10, rfl, h10, hb⟩
  obtain ⟨b10, A10, l10, c10, rfl, H10⟩ := h10.open
  replace B := Lib.hid (B.out.stay hb)
  replace HQ := Lib.hid (HQ.out.stay hb)
  replace HR := Lib.hid (HR.out.stay hb)
  replace bxq := Lib.hid (bxq.out.stay hb)
  replace bxr := Lib.hid (bxr.out.stay hb)
  replace HP := Lib.hid (HP.out.stay hb)
  replace HS := Lib.hid (HS.out.stay hb)
  replace bxp := Lib.hid (bxp.out.stay hb)
  replace bxs := Lib.hid (bxs.out.stay hb)
  replace HX := Lib.hid (HX.out.stay hb)
  replace bxx := Lib.hid (bxx.out.stay hb)
  replace H9 := Lib.hid (H9.out.stay hb)
  clear h10 hb
  go_wp2_with fail
  refine (divide_Mod _ _ (-7) 3 _ H9.out H10.out (lc_tiny (by decide)) (lc_tiny (by decide)) (by decide) (.inl (Nat.le_trans (lc_small (by rw [W64_eq]; decide)) (by omega)))).mono ?_
  rintro e w9 ⟨p9, rfl, hp, hb⟩
  rw [show modR (-7) 3 = rawOf 2 from (if_neg (by decide)).trans (congrArg rawOf (show (-7 : Int).fmod 3 = 2 by decide))] at hp
  rw [show modE 3 = 0 by decide]
  obtain ⟨bm, Am, lm, cm, rfl, HM⟩ := hp.rawV.open
  replace B := Lib.hid (B.out.stay hb)
  replace HQ := Lib.hid (HQ.out.stay hb)
  replace HR := Lib.hid (HR.out.stay hb)
  replace bxq := Lib.hid (bxq.out.stay hb)
  replace bxr := Lib.hid (bxr.out.stay hb)
  replace HP := Lib.hid (HP.out.stay hb)
  replace HS := Lib.hid (HS.out.stay hb)
  replace bxp := Lib.hid (bxp.out.stay hb)
  replace bxs := Lib.hid (bxs.out.stay hb)
  replace HX := Lib.hid (HX.out.stay hb)
  replace bxx := Lib.hid (bxx.out.stay hb)
  clear hp hb H9 H10
  go_upto_region 5 with (fail)
  obtain ⟨W9, gm, hW, hg, bxm, G_gm, S_W9, hb⟩ := boxH w9 (.bool bm) (.slice Am lm cm)
  rw [hW, hg]
  replace B := Lib.hid (B.out.stay hb)
  replace HQ := Lib.hid (HQ.out.stay hb)
  replace HR := Lib.hid (HR.out.stay hb)
  replace bxq := Lib.hid (bxq.out.stay hb)
  replace bxr := Lib.hid (bxr.out.stay hb)
  replace HP := Lib.hid (HP.out.stay hb)
  replace HS := Lib.hid (HS.out.stay hb)
  replace bxp := Lib.hid (bxp.out.stay hb)
  replace bxs := Lib.hid (bxs.out.stay hb)
  replace HX := Lib.hid (HX.out.stay hb)
  replace bxx := Lib.hid (bxx.out.stay hb)
  replace HM := Lib.hid (HM.out.stay hb)
  have B_W9 := Lib.hid (show Since w9 W9 from hb)
  clear hW hg hb
  have a0 := later_cell bxq.out.cell0
  have a1 := later_cell bxq.out.cell1
  have k0 := later_cell bxr.out.cell0
  have k1 := later_cell bxr.out.cell1
  have c0 := later_cell bxp.out.cell0
  have c1 := later_cell bxp.out.cell1
  have d0 := later_cell bxs.out.cell0
  have d1 := later_cell bxs.out.cell1
  have e0 := later_cell bxx.out.cell0
  have e1 := later_cell bxx.out.cell1
  have f0 := later_cell bxm.out.cell0
  have f1 := later_cell bxm.out.cell1
  refine wp_region_stages (fun w' => ∃ δ : Later Nix W9, w' = δ.world) [(false, 0), (true, 1), (true, 2), (false, 3), (false, 4), (true, 5), (true, 6), (false, 7), (false, 8), (false, 9), (true, 10), (true, 11), (false, 12), (false, 13), (false, 14), (true, 15), (true, 16), (false, 17), (false, 18), (false, 19), (true, 20), (true, 21), (false, 22), (false, 23), (false, 24), (true, 25)] 26 [.reads [_], .loud _, .loud _, .reads [_, _], .loud _, .loud _, .reads [_, _, _], .loud _, .loud _, .reads [_, _, _], .loud _, .loud _, .reads [_, _, _], .loud _, .loud _, .reads [_, _, _], .loud _] [_, _, _] (by kernel_rfl) (by kernel_rfl) rfl rfl ?_ ?_
  · exact ⟨⟨_, nix_drawn W9⟩, rfl⟩
  refine wpStages_reads ?_
  repeat (go_big_quiet_step (fail))
  refine wpQuiet_nil ?_
  refine wpStages_loud rfl ?_
  intro K hK
  go_big_op
  have ex : Ext Nix W9 (W9.drewN 1) := nix_drawn W9
  have hb : Below W9.heap.size W9 (W9.drewN 1) := below_drewN (Below.refl _ _) 1
  replace B := Lib.hid (B.out.stay hb)
  replace HQ := Lib.hid (HQ.out.stay hb)
  replace HR := Lib.hid (HR.out.stay hb)
  replace HP := Lib.hid (HP.out.stay hb)
  replace HS := Lib.hid (HS.out.stay hb)
  replace HX := Lib.hid (HX.out.stay hb)
  replace HM := Lib.hid (HM.out.stay hb)
  clear hb
  refine ((law17_of (-4) _ (by omega) (by omega))).mono ?_
  rintro e w11 ⟨u11, rfl, h11, hb⟩
  replace ex : Ext Nix W9 w11 := ex.later (Ext.of_below hb)
  replace B := Lib.hid (B.out.stay hb)
  replace HQ := Lib.hid (HQ.out.stay hb)
  replace HR := Lib.hid (HR.out.stay hb)
  replace HP := Lib.hid (HP.out.stay hb)
  replace HS := Lib.hid (HS.out.stay hb)
  replace HX := Lib.hid (HX.out.stay hb)
  replace HM := Lib.hid (HM.out.stay hb)
  clear hb
  refine hK _ _ ⟨⟨_, ex⟩, rfl⟩ ?_
  clear hK K
  have H11 := Lib.hid h11.raw
  clear h11
  refine wpStages_loud rfl ?_
  intro K hK
  go_big_op
  refine ((kit_raw _ _ (rawOf (-4)) (rawOf (-4)) _ (HQ).out H11.out (raw_tiny (by decide)))).mono ?_
  rintro e v11 ⟨rfl, hb⟩
  replace ex : Ext Nix W9 v11 := ex.later (Ext.of_below hb)
  replace B := Lib.hid (B.out.stay hb)
  replace HQ := Lib.hid (HQ.out.stay hb)
  replace HR := Lib.hid (HR.out.stay hb)
  replace HP := Lib.hid (HP.out.stay hb)
  replace HS := Lib.hid (HS.out.stay hb)
  replace HX := Lib.hid (HX.out.stay hb)
  replace HM := Lib.hid (HM.out.stay hb)
  clear hb
  refine hK _ _ ⟨⟨_, ex⟩, rfl⟩ ?_
  clear hK K
  rw [decide_eq_true rfl]
  clear H11
  refine wpStages_reads ?_
  repeat (go_big_quiet_step (fail))
  refine wpQuiet_nil ?_
  refine wpStages_loud rfl ?_
  intro K hK
  go_big_op
  refine ((law17_of 1 _ (by omega) (by omega))).mono ?_
  rintro e w12 ⟨u12, rfl, h12, hb⟩
  replace ex : Ext Nix W9 w12 := ex.later (Ext.of_below hb)
  replace B := Lib.hid (B.out.stay hb)
  replace HR := Lib.hid (HR.out.stay hb)
  replace HP := Lib.hid (HP.out.stay hb)
  replace HS := Lib.hid (HS.out.stay hb)
  replace HX := Lib.hid (HX.out.stay hb)
  replace HM := Lib.hid (HM.out.stay hb)
  clear hb
  refine hK _ _ ⟨⟨_, ex⟩, rfl⟩ ?_
  clear hK K
  have H12 := Lib.hid h12.raw
  clear h12
  refine wpStages_loud rfl ?_
  intro K hK
  go_big_op
  refine ((kit_raw _ _ (rawOf 1) (rawOf 1) _ (HR).out H12.out (raw_tiny (by decide)))).mono ?_
  rintro e v12 ⟨rfl, hb⟩
  replace ex : Ext Nix W9 v12 := ex.later (Ext.of_below hb)
  replace B := Lib.hid (B.out.stay hb)
  replace HR := Lib.hid (HR.out.stay hb)
  replace HP := Lib.hid (HP.out.stay hb)
  replace HS := Lib.hid (HS.out.stay hb)
  replace HX := Lib.hid (HX.out.stay hb)
  replace HM := Lib.hid (HM.out.stay hb)
  clear hb
  refine hK _ _ ⟨⟨_, ex⟩, rfl⟩ ?_
  clear hK K
  rw [decide_eq_true rfl]
  clear H12
  refine wpStages_reads ?_
  repeat (go_big_quiet_step (fail))
  refine wpQuiet_nil ?_
  refine wpStages_loud rfl ?_
  intro K hK
  go_big_op
  refine ((law17_of (-3) _ (by omega) (by omega))).mono ?_
  rintro e w13 ⟨u13, rfl, h13, hb⟩
  replace ex : Ext Nix W9 w13 := ex.later (Ext.of_below hb)
  replace B := Lib.hid (B.out.stay hb)
  replace HP := Lib.hid (HP.out.stay hb)
  replace HS := Lib.hid (HS.out.stay hb)
  replace HX := Lib.hid (HX.out.stay hb)
  replace HM := Lib.hid (HM.out.stay hb)
  clear hb
  refine hK _ _ ⟨⟨_, ex⟩, rfl⟩ ?_
  clear hK K
  have H13 := Lib.hid h13.raw
  clear h13
  refine wpStages_loud rfl ?_
  intro K hK
  go_big_op
  refine ((kit_raw _ _ (rawOf (-3)) (rawOf (-3)) _ (HP).out H13.out (raw_tiny (by decide)))).mono ?_
  rintro e v13 ⟨rfl, hb⟩
  replace ex : Ext Nix W9 v13 := ex.later (Ext.of_below hb)
  replace B := Lib.hid (B.out.stay hb)
  replace HP := Lib.hid (HP.out.stay hb)
  replace HS := Lib.hid (HS.out.stay hb)
  replace HX := Lib.hid (HX.out.stay hb)
  replace HM := Lib.hid (HM.out.stay hb)
  clear hb
  refine hK _ _ ⟨⟨_, ex⟩, rfl⟩ ?_
  clear hK K
  rw [decide_eq_true rfl]
  clear H13
  refine wpStages_reads ?_
  repeat (go_big_quiet_step (fail))
  refine wpQuiet_nil ?_
  refine wpStages_loud rfl ?_
  intro K hK
  go_big_op
  refine ((law17_of (-1) _ (by omega) (by omega))).mono ?_
  rintro e w14 ⟨u14, rfl, h14, hb⟩
  replace ex : Ext Nix W9 w14 := ex.later (Ext.of_below hb)
  replace B := Lib.hid (B.out.stay hb)
  replace HS := Lib.hid (HS.out.stay hb)
  replace HX := Lib.hid (HX.out.stay hb)
  replace HM := Lib.hid (HM.out.stay hb)
  clear hb
  refine hK _ _ ⟨⟨_, ex⟩, rfl⟩ ?_
  clear hK K
  have H14 := Lib.hid h14.raw
  clear h14
  refine wpStages_loud rfl ?_
  intro K hK
  go_big_op
  refine ((kit_raw _ _ (rawOf (-1)) (rawOf (-1)) _ (HS).out H14.out (raw_tiny (by decide)))).mono ?_
  rintro e v14 ⟨rfl, hb⟩
  replace ex : Ext Nix W9 v14 := ex.later (Ext.of_below hb)
  replace B := Lib.hid (B.out.stay hb)
  replace HS := Lib.hid (HS.out.stay hb)
  replace HX := Lib.hid (HX.out.stay hb)
  replace HM := Lib.hid (HM.out.stay hb)
  clear hb
  refine hK _ _ ⟨⟨_, ex⟩, rfl⟩ ?_
  clear hK K
  rw [decide_eq_true rfl]
  clear H14
  refine wpStages_reads ?_
  repeat (go_big_quiet_step (fail))
  refine wpQuiet_nil ?_
  refine wpStages_loud rfl ?_
  intro K hK
  go_big_op
  refine ((law17_of (-2) _ (by omega) (by omega))).mono ?_
  rintro e w15 ⟨u15, rfl, h15, hb⟩
  replace ex : Ext Nix W9 w15 := ex.later (Ext.of_below hb)
  replace B := Lib.hid (B.out.stay hb)
  replace HX := Lib.hid (HX.out.stay hb)
  replace HM := Lib.hid (HM.out.stay hb)
  clear hb
  refine hK _ _ ⟨⟨_, ex⟩, rfl⟩ ?_
  clear hK K
  have H15 := Lib.hid h15.raw
  clear h15
  refine wpStages_loud rfl ?_
  intro K hK
  go_big_op
  refine ((kit_raw _ _ (rawOf (-2)) (rawOf (-2)) _ (HX).out H15.out (raw_tiny (by decide)))).mono ?_
  rintro e v15 ⟨rfl, hb⟩
  replace ex : Ext Nix W9 v15 := ex.later (Ext.of_below hb)
  replace B := Lib.hid (B.out.stay hb)
  replace HX := Lib.hid (HX.out.stay hb)
  replace HM := Lib.hid (HM.out.stay hb)
  clear hb
  refine hK _ _ ⟨⟨_, ex⟩, rfl⟩ ?_
  clear hK K
  rw [decide_eq_true rfl]
  clear H15
  refine wpStages_reads ?_
  repeat (go_big_quiet_step (fail))
  refine wpQuiet_nil ?_
  refine wpStages_loud rfl ?_
  intro K hK
  go_big_op
  refine ((law17_of 2 _ (by omega) (by omega))).mono ?_
  rintro e w16 ⟨u16, rfl, h16, hb⟩
  replace ex : Ext Nix W9 w16 := ex.later (Ext.of_below hb)
  replace B := Lib.hid (B.out.stay hb)
  replace HM := Lib.hid (HM.out.stay hb)
  clear hb
  refine hK _ _ ⟨⟨_, ex⟩, rfl⟩ ?_
  clear hK K
  have H16 := Lib.hid h16.raw
  clear h16
  refine wpStages_nil ?_
  clear a0 a1 k0 k1 c0 c1 d0 d1 e0 e1 f0 f1
  go_wp2_with fail
  refine (kit_raw _ _ (rawOf 2) (rawOf 2) _ HM.out H16.out (raw_tiny (by decide))).mono ?_
  rintro e w17 ⟨rfl, hb⟩
  rw [decide_eq_true rfl]
  replace B := Lib.hid (B.out.stay hb)
  clear hb
  go_wp2_with fail
  go_ret
  exact ⟨rfl, B.out⟩
end Go.Proofs.Ytonbhpadoplpkaa
