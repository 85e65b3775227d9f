import Derived.Test.YtonbhpadoplpkaaGreatKitI
/- The package rosetteref17: the document's answer for division. -/
namespace Go.Proofs.YtonbhpadoplpkaaGreat
open Go.RowKit Go.Deep
set_option maxRecDepth 100000 in
theorem r17_wrong (u v : Value) (x y : Raw) (w : World) (hu : RawV w u x) (hv : RawV w v y) (hly : y.2.length ≤ 1099511627776) :
    Calls Tryz.prog 53 #[u, v] w fun e w' => e = .returned (.int .i64 (wrongE x y)) ∧ Below w.heap.size w w' := by
  obtain ⟨b1, A1, l1, c1, rfl, HU⟩ := hu.open
  obtain ⟨b2, A2, l2, c2, rfl, HV⟩ := hv.open
  have HLY := Lib.hid hly
  clear hu hv hly
  go_enter Tryz.func53, Tryz.ntmps53
  go_wp2_with fail
  obtain ⟨W0, g, h, hW, hg, hr, bx, by_, G_g, S_W0, hb⟩ := boxH2 w (.bool b1) (.slice A1 l1 c1) (.bool b2) (.slice A2 l2 c2)
  rw [hW, hr, hg]
  replace HU := Lib.hid (HU.out.stay hb)
  replace HV := Lib.hid (HV.out.stay hb)
  have B_W0 := Lib.hid (show Since w W0 from hb)
  clear hW hg hr hb
  have a0 := bx.out.cell0
  have a1 := bx.out.cell1
  go_wp2_with fail
  refine (kit_right _ x W0 HU.out).mono ?_
  rintro e w1 ⟨rfl, hb⟩
  replace HU := Lib.hid (HU.out.stay hb)
  replace HV := Lib.hid (HV.out.stay hb)
  replace bx := Lib.hid (bx.out.stay hb)
  replace by_ := Lib.hid (by_.out.stay hb)
  replace B_W0 := Lib.hid (B_W0.out.stay hb)
  clear hb a0 a1
  rcases hr : rightInt x
  · have HE := Lib.hid (show wrongE x y = 2 by unfold wrongE; rw [hr]; rfl)
    clear hr
    go_wp2_with fail
    go_ret
    rw [HE.out]
    exact ⟨rfl, B_W0.out⟩
  · have HR := Lib.hid hr
    clear hr
    have a0 := by_.out.cell0
    have a1 := by_.out.cell1
    go_wp2_with fail
    refine (kit_right _ y _ HV.out).mono ?_
    rintro e w2 ⟨rfl, hb⟩
    replace HV := Lib.hid (HV.out.stay hb)
    replace bx := Lib.hid (bx.out.stay hb)
    replace by_ := Lib.hid (by_.out.stay hb)
    replace B_W0 := Lib.hid (B_W0.out.stay hb)
    clear hb a0 a1
    rcases hr : rightInt y
    · have HE := Lib.hid (show wrongE x y = 2 by unfold wrongE; rw [hr, HR.out]; rfl)
      clear hr
      go_wp2_with fail
      go_ret
      rw [HE.out]
      exact ⟨rfl, B_W0.out⟩
    · have a0 := by_.out.cell0
      have a1 := by_.out.cell1
      go_wp2_with fail
      refine (kit_zero _ y _ HV.out HLY.out).mono ?_
      rintro e w3 ⟨rfl, hb⟩
      replace B_W0 := Lib.hid (B_W0.out.stay hb)
      clear hb a0 a1
      by_cases h0 : y.2.length = 0
      · have HE := Lib.hid (show wrongE x y = 7 by unfold wrongE; rw [hr, HR.out, if_pos h0]; rfl)
        have hz : decide (val y.2 = 0) = true := decide_eq_true (by rw [List.eq_nil_of_length_eq_zero h0]; rfl)
        rw [hz]
        clear hr h0 hz
        go_wp2_with fail
        go_ret
        rw [HE.out]
        exact ⟨rfl, B_W0.out⟩
      · have HE := Lib.hid (show wrongE x y = 0 by unfold wrongE; rw [hr, HR.out, if_neg h0]; rfl)
        have hz : decide (val y.2 = 0) = false := by
          obtain ⟨z, hz, hl, _⟩ := right_int_of (b := y.1) (xs := y.2) (HV.out.parts.2.2.2).small hr
          refine decide_eq_false fun h => h0 ?_
          have e : y.2 = limbs z.natAbs := congrArg Prod.snd hz
          rw [e] at h ⊢
          rw [val_limbs] at h
          rw [h, limbs_zero]; rfl
        rw [hz]
        clear hr h0 hz
        go_wp2_with fail
        go_ret
        rw [HE.out]
        exact ⟨rfl, B_W0.out⟩
set_option maxRecDepth 100000 in
theorem r17_Trunc_bad (u v : Value) (x y : Raw) (E : Int) (w : World) (hu : RawV w u x) (hv : RawV w v y) (hE : wrongE x y = E) (h0 : E ≠ 0) (hly : y.2.length ≤ 1099511627776) :
    Calls Tryz.prog 19 #[u, v] w fun e w' => e = .returned (.tuple #[none2, none2, .int .i64 E]) ∧ Below w.heap.size w w' := by
  obtain ⟨b1, A1, l1, c1, rfl, HU⟩ := hu.open
  obtain ⟨b2, A2, l2, c2, rfl, HV⟩ := hv.open
  have HE := Lib.hid hE
  have h0I : ((E : Int) != 0) = true := by rw [bne_iff_ne]; exact h0
  have HLY := Lib.hid hly
  clear hu hv hE h0 hly
  go_enter Tryz.func19, Tryz.ntmps19
  go_wp2_with fail
  obtain ⟨W0, g, h, r, q, hW, hg, hh, hr, hq, bx, by_, br, bq, G_g, S_W0, hb⟩ := boxH4 w (.bool b1) (.slice A1 l1 c1) (.bool b2) (.slice A2 l2 c2) (.bool false) (.slice none 0 0) (.bool false) (.slice none 0 0)
  rw [hW, hq, hr, hh, hg]
  replace HU := Lib.hid (HU.out.stay hb)
  replace HV := Lib.hid (HV.out.stay hb)
  have B_W0 := Lib.hid (show Since w W0 from hb)
  clear hW hg hh hr hq hb
  have a0 := bx.out.cell0
  have a1 := bx.out.cell1
  have b0 := by_.out.cell0
  have b1 := by_.out.cell1
  go_wp2_with fail
  refine (r17_wrong _ _ x y W0 HU.out HV.out HLY.out).mono ?_
  rintro e w1 ⟨rfl, hb⟩
  rw [HE.out]
  replace bx := Lib.hid (bx.out.stay hb)
  replace by_ := Lib.hid (by_.out.stay hb)
  replace br := Lib.hid (br.out.stay hb)
  replace bq := Lib.hid (bq.out.stay hb)
  replace B_W0 := Lib.hid (B_W0.out.stay hb)
  clear hb a0 a1 b0 b1
  have hne : ¬ r = q := by have := G_g.out; omega
  have HGG := Lib.hid (show w.heap.size ≤ r ∧ w.heap.size ≤ q by have := G_g.out; omega)
  have c0 := br.out.cell0
  have c1' := br.out.cell1
  have f0 := br.out.free 0
  have f1 := br.out.free 1
  have d0 := bq.out.cell0
  have d1 := bq.out.cell1
  have g0 := bq.out.free 0
  have g1 := bq.out.free 1
  have bh := Box2.far (h := q) (a := .bool false) (b := .slice none 0 0) (br.out.store (a := .bool false) (b := .slice none 0 0)) (fun e => hne e.symm)
  have bk := (Box2.far (h := r) (a := .bool false) (b := .slice none 0 0) bq.out hne).store (a := .bool false) (b := .slice none 0 0)
  go_wp2_with fail
  refine bodyPost_ret (v := .tuple #[.agg #[.bool false, (.slice none 0 0)], .agg #[.bool false, (.slice none 0 0)], (.int .i64 E)]) (by
    rw [results_rec2 rfl]
    have hld := run_loadVar_row (P := Tryz.prog) _ r 24 24 #[.bool false, (.slice none 0 0)] (0, 0) _ bh Tryz.underlying24 rfl (by kernel_rfl)
    have hld2 := run_loadVar_row (P := Tryz.prog) _ q 24 24 #[.bool false, (.slice none 0 0)] (0, 0) _ bk Tryz.underlying24 rfl (by kernel_rfl)
    simp [asAddr, Result.andThen, hld, hld2]) rfl ?_
  exact ⟨rfl, store2_below (store2_below B_W0.out HGG.out.1) HGG.out.2⟩
theorem IntV.ext2 {w : World} {v : Value} {z : Int} {g : Nat} (h : IntV w v z) (hn : NoNum w g) (a b : Value) : IntV ((w.setCell ⟨g, 0, none⟩ a).setCell ⟨g, 1, none⟩ b) v z := by
  obtain ⟨A, l, c, rfl, hl, hc, hlim⟩ := h
  have e := ext_store2 (a := a) (b := b) hn
  exact ⟨A, l, c, rfl, hl, hc, (hlim.ext (Nat.le_refl _) e).more e.size⟩
set_option maxHeartbeats 1000000 in
set_option maxRecDepth 100000 in
theorem r17_Trunc (u v : Value) (x y : Int) (w : World) (hu : IntV w u x) (hv : IntV w v y) (lx : lc x.natAbs ≤ 4096) (ly : lc y.natAbs ≤ 4096) (h0 : y ≠ 0) :
    Calls Tryz.prog 19 #[u, v] w fun e w' => ∃ p q, e = .returned (.tuple #[p, q, .int .i64 0]) ∧ IntV w' p (x.tdiv y) ∧ IntV w' q (x.tmod y) ∧ Below w.heap.size w w' := by
  obtain ⟨b1, A1, l1, c1, rfl, HU⟩ := hu.open
  obtain ⟨b2, A2, l2, c2, rfl, HV⟩ := hv.open
  have HP1 := Lib.hid HU.out.parts
  have HP2 := Lib.hid HV.out.parts
  have HWR := Lib.hid (wrongE_int lx ly h0)
  have HLX := Lib.hid lx
  have HLY := Lib.hid ly
  have H0 := Lib.hid h0
  clear hu hv lx ly h0
  go_enter Tryz.func19, Tryz.ntmps19
  go_wp2_with fail
  obtain ⟨W0, g, h, r, q, hW, hg, hh, hr, hq, bx, by_, br, bq, G_g, S_W0, hb⟩ := boxH4 w (.bool b1) (.slice A1 l1 c1) (.bool b2) (.slice A2 l2 c2) (.bool false) (.slice none 0 0) (.bool false) (.slice none 0 0)
  rw [hW, hq, hr, hh, hg]
  replace HU := Lib.hid (HU.out.stay hb)
  replace HV := Lib.hid (HV.out.stay hb)
  have B_W0 := Lib.hid (show Since w W0 from hb)
  clear hW hg hh hr hq hb
  have a0 := bx.out.cell0
  have a1 := bx.out.cell1
  have b0 := by_.out.cell0
  have b1 := by_.out.cell1
  go_wp2_with fail
  refine (r17_wrong _ _ _ _ W0 HU.out.raw HV.out.raw (by have h := HLY.out; unfold lc at h; show (limbs y.natAbs).length ≤ _; omega)).mono ?_
  rintro e w1 ⟨rfl, hb⟩
  rw [HWR.out]
  replace HU := Lib.hid (HU.out.stay hb)
  replace HV := Lib.hid (HV.out.stay hb)
  replace bx := Lib.hid (bx.out.stay hb)
  replace by_ := Lib.hid (by_.out.stay hb)
  replace br := Lib.hid (br.out.stay hb)
  replace bq := Lib.hid (bq.out.stay hb)
  replace B_W0 := Lib.hid (B_W0.out.stay hb)
  clear hb a0 a1 b0 b1
  have a0 := bx.out.cell0
  have a1 := bx.out.cell1
  have b0 := by_.out.cell0
  have b1 := by_.out.cell1
  go_wp2_with fail
  refine (nat_div (.slice A1 l1 c1) (.slice A2 l2 c2) x.natAbs y.natAbs w1 ⟨_, _, _, rfl, HP1.out.2.1, HP1.out.2.2.1, HU.out.parts.2.2.2⟩ ⟨_, _, _, rfl, HP2.out.2.1, HP2.out.2.2.1, HV.out.parts.2.2.2⟩ (by have := HLX.out; omega) (by have := HLY.out; omega) (by have := H0.out; omega)).mono ?_
  rintro e w2 ⟨p, q', rfl, hp, hq, hb⟩
  clear a0 a1 b0 b1
  replace bx := Lib.hid (bx.out.stay hb)
  replace by_ := Lib.hid (by_.out.stay hb)
  replace br := Lib.hid (br.out.stay hb)
  replace bq := Lib.hid (bq.out.stay hb)
  replace B_W0 := Lib.hid (B_W0.out.stay hb)
  have HPP := Lib.hid hp
  have HPQ := Lib.hid hq
  have HLQ := Lib.hid (show lc (x.natAbs / y.natAbs) ≤ 1099511627776 ∧ lc (x.natAbs % y.natAbs) ≤ 1099511627776 from ⟨Nat.le_trans (lc_mono (Nat.div_le_self _ _)) (Nat.le_trans HLX.out (by omega)), Nat.le_trans (lc_mono (Nat.mod_le _ _)) (Nat.le_trans HLX.out (by omega))⟩)
  clear hp hq hb HU HV
  go_upto_region 5 with (fail)
  have a0 := later_cell bx.out.cell0
  have a1 := later_cell bx.out.cell1
  have b0 := later_cell by_.out.cell0
  have b1 := later_cell by_.out.cell1
  refine wp_region_stages (fun w' => ∃ δ : Later Nix w2, w' = δ.world) [(false, 0), (false, 1), (false, 2), (false, 3), (false, 4), (false, 5), (false, 7), (false, 8), (false, 9), (true, 6)] 10 [.reads [_, _, _, _, _, _, _, _, _], .loud _] [_, _, _, _] (by kernel_rfl) (by kernel_rfl) rfl rfl ?_ ?_
  · exact ⟨⟨_, nix_drawn w2⟩, rfl⟩
  refine wpStages_reads ?_
  repeat (go_big_quiet_step (fail))
  refine wpQuiet_nil ?_
  refine wpStages_loud rfl ?_
  intro K hK
  go_big_op
  clear a0 a1 b0 b1
  have ex : Ext Nix w2 (w2.drewN 1) := nix_drawn w2
  have hb : Below w2.heap.size w2 (w2.drewN 1) := below_drewN (Below.refl _ _) 1
  replace HPP := Lib.hid (HPP.out.stay hb)
  replace HPQ := Lib.hid (HPQ.out.stay hb)
  replace bx := Lib.hid (bx.out.stay hb)
  replace by_ := Lib.hid (by_.out.stay hb)
  replace br := Lib.hid (br.out.stay hb)
  replace bq := Lib.hid (bq.out.stay hb)
  replace B_W0 := Lib.hid (B_W0.out.stay hb)
  clear hb
  refine ((kit_made (!(b1 == b2)) p _ _ HPP.out HLQ.out.1)).mono ?_
  rintro e w3 ⟨up, rfl, hup, hb⟩
  replace ex : Ext Nix w2 w3 := ex.later (Ext.of_below hb)
  replace HPQ := Lib.hid (HPQ.out.stay hb)
  replace bx := Lib.hid (bx.out.stay hb)
  replace by_ := Lib.hid (by_.out.stay hb)
  replace br := Lib.hid (br.out.stay hb)
  replace bq := Lib.hid (bq.out.stay hb)
  replace B_W0 := Lib.hid (B_W0.out.stay hb)
  clear hb
  refine hK _ _ ⟨⟨_, ex⟩, rfl⟩ ?_
  clear hK K
  obtain ⟨bu, Au, lu, cu, rfl, HU⟩ := hup.open
  clear hup HPP
  refine wpStages_nil ?_
  go_wp2_with fail
  refine (kit_made b1 q' _ _ HPQ.out HLQ.out.2).mono ?_
  rintro e w4 ⟨uq, rfl, huq, hb⟩
  replace HU := Lib.hid (HU.out.stay hb)
  replace bx := Lib.hid (bx.out.stay hb)
  replace by_ := Lib.hid (by_.out.stay hb)
  replace br := Lib.hid (br.out.stay hb)
  replace bq := Lib.hid (bq.out.stay hb)
  replace B_W0 := Lib.hid (B_W0.out.stay hb)
  obtain ⟨bv, Av, lv, cv, rfl, HV⟩ := huq.open
  clear huq hb HPQ
  have hne : ¬ r = q := by have := G_g.out; omega
  have HGG := Lib.hid (show w.heap.size ≤ r ∧ w.heap.size ≤ q by have := G_g.out; omega)
  have c0 := br.out.cell0
  have c1' := br.out.cell1
  have f0 := br.out.free 0
  have f1 := br.out.free 1
  have d0 := bq.out.cell0
  have d1 := bq.out.cell1
  have g0 := bq.out.free 0
  have g1 := bq.out.free 1
  have n0 := br.out.nums
  have n1 := bq.out.nums
  have bh := Box2.far (h := q) (a := .bool bv) (b := .slice Av lv cv) (br.out.store (a := .bool bu) (b := .slice Au lu cu)) (fun e => hne e.symm)
  have bk := Box2.far (h := r) (a := .bool bu) (b := .slice Au lu cu) bq.out hne
  have HBK := Lib.hid (And.intro bh bk)
  have HN := Lib.hid (And.intro n0 n1)
  clear bh bk n0 n1
  go_wp2_with fail
  refine bodyPost_ret (v := .tuple #[.agg #[.bool bu, (.slice Au lu cu)], .agg #[.bool bv, (.slice Av lv cv)], (.int .i64 0)]) (by
    rw [results_rec2 rfl]
    have hld := run_loadVar_row (P := Tryz.prog) _ r 24 24 #[.bool bu, (.slice Au lu cu)] (0, 0) _ HBK.out.1 Tryz.underlying24 rfl (by kernel_rfl)
    have hld2 := run_loadVar_row (P := Tryz.prog) _ q 24 24 #[.bool bv, (.slice Av lv cv)] (0, 0) _ HBK.out.2.store Tryz.underlying24 rfl (by kernel_rfl)
    simp [asAddr, Result.andThen, hld, hld2]) rfl ?_
  have e1 : signed (!(b1 == b2)) (x.natAbs / y.natAbs) = x.tdiv y := by rw [HP1.out.1, HP2.out.1]; exact signed_quo x y
  have e2 : signed b1 (x.natAbs % y.natAbs) = x.tmod y := by rw [HP1.out.1]; exact signed_rem x y
  rw [e1] at HU
  rw [e2] at HV
  exact ⟨_, _, rfl, (HU.out.ext2 HN.out.1 _ _).ext2 HBK.out.2.nums _ _, (HV.out.ext2 HN.out.1 _ _).ext2 HBK.out.2.nums _ _, store2_below (store2_below B_W0.out HGG.out.1) HGG.out.2⟩
set_option maxHeartbeats 1000000 in
set_option maxRecDepth 100000 in
theorem r17_Exact (u v : Value) (x y : Int) (w : World) (hu : IntV w u x) (hv : IntV w v y) (lx : lc x.natAbs ≤ 4096) (ly : lc y.natAbs ≤ 4096) (h0 : y ≠ 0) :
    Calls Tryz.prog 20 #[u, v] w fun e w' => ∃ p, e = .returned (.tuple #[p, .bool (decide (x.tmod y = 0)), .int .i64 0]) ∧ RawV w' p (if x.tmod y = 0 then rawOf (x.tdiv y) else (false, [])) ∧ Below w.heap.size w w' := by
  obtain ⟨b1, A1, l1, c1, rfl, HU⟩ := hu.open
  obtain ⟨b2, A2, l2, c2, rfl, HV⟩ := hv.open
  have HLX := Lib.hid lx
  have HLY := Lib.hid ly
  have H0 := Lib.hid h0
  clear hu hv lx ly h0
  go_enter Tryz.func20, Tryz.ntmps20
  go_wp2_with fail
  obtain ⟨W0, g, h, r, hW, hg, hh, hr, bx, by_, br, G_g, S_W0, hb⟩ := boxH3 w (.bool b1) (.slice A1 l1 c1) (.bool b2) (.slice A2 l2 c2) (.bool false) (.slice none 0 0)
  rw [hW, hr, hh, hg]
  replace HU := Lib.hid (HU.out.stay hb)
  replace HV := Lib.hid (HV.out.stay hb)
  have B_W0 := Lib.hid (show Since w W0 from hb)
  clear hW hg hh hr hb
  have a0 := bx.out.cell0
  have a1 := bx.out.cell1
  have k0 := by_.out.cell0
  have k1 := by_.out.cell1
  go_wp2_with fail
  refine (r17_Trunc _ _ x y W0 HU.out HV.out HLX.out HLY.out H0.out).mono ?_
  rintro e w1 ⟨p, q', rfl, hp, hq, hb⟩
  obtain ⟨bp, Ap, lp, cp, rfl, HP⟩ := hp.open
  obtain ⟨bm, Am, lm, cm, rfl, HM⟩ := hq.open
  clear hp hq
  replace br := Lib.hid (br.out.stay hb)
  replace B_W0 := Lib.hid (B_W0.out.stay hb)
  clear hb a0 a1 k0 k1
  go_upto_region 2 with (fail)
  have HQL := Lib.hid br.out.lt
  obtain ⟨W2, gp, gm, hW, hg, hr, bpp, bmm, G_gp, S_W2, hb⟩ := boxH2 w1 (.bool bp) (.slice Ap lp cp) (.bool bm) (.slice Am lm cm)
  rw [hW, hr, hg]
  replace HP := Lib.hid (HP.out.stay hb)
  replace HM := Lib.hid (HM.out.stay hb)
  replace br := Lib.hid (br.out.stay hb)
  replace B_W0 := Lib.hid (B_W0.out.stay hb)
  have B_W2 := Lib.hid (show Since w1 W2 from hb)
  clear hW hg hr hb
  replace HQL := Lib.hid (show r < gp ∧ gp < gm by have h1 := HQL.out; have h2 := G_gp.out; omega)
  have HGG := Lib.hid (show w.heap.size ≤ r by have h1 := G_g.out; omega)
  have HLM := Lib.hid (show (rawOf (x.tmod y)).2.length ≤ 1099511627776 by
    have h1 : lc (x.tmod y).natAbs ≤ lc x.natAbs := lc_mono (by rw [Int.natAbs_tmod]; exact Nat.mod_le _ _)
    have h2 := HLX.out
    show lc (x.tmod y).natAbs ≤ _
    omega)
  have a0 := bpp.out.cell0
  have a1 := bpp.out.cell1
  have k0 := bmm.out.cell0
  have k1 := bmm.out.cell1
  have c0 := br.out.cell0
  have c1 := br.out.cell1
  have fr := br.out.free
  go_wp2_with fail
  refine (kit_zero _ (rawOf (x.tmod y)) _ HM.out.raw HLM.out).mono ?_
  rintro e w3 ⟨rfl, hb⟩
  replace HP := Lib.hid (HP.out.stay hb)
  replace bpp := Lib.hid (bpp.out.stay hb)
  replace br := Lib.hid (br.out.stay hb)
  replace B_W0 := Lib.hid (B_W0.out.stay hb)
  have e2 : val (rawOf (x.tmod y)).2 = (x.tmod y).natAbs := val_limbs _
  rw [e2]
  clear a0 a1 k0 k1 c0 c1 fr hb e2
  have a0 := bpp.out.cell0
  have a1 := bpp.out.cell1
  have c0 := br.out.cell0
  have c1 := br.out.cell1
  have fr := br.out.free
  by_cases hl : x.tmod y = 0
  · have HZ0 := Lib.hid hl
    rw [decide_eq_true (show (x.tmod y).natAbs = 0 by omega)]
    clear hl
    go_wp2_with fail
    refine bodyPost_ret (v := .tuple #[.agg #[.bool bp, (.slice Ap lp cp)], (.bool true), (.int .i64 0)]) (by
      rw [results_rec_two rfl]
      have hld := run_loadVar_row (P := Tryz.prog) _ r 24 24 #[.bool bp, (.slice Ap lp cp)] (0, 0) _ br.out.store Tryz.underlying24 rfl (by kernel_rfl)
      simp [asAddr, Result.andThen, hld]) rfl ?_
    exact ⟨_, rfl, (HP.out.ext2 br.out.nums _ _).raw, store2_below B_W0.out HGG.out⟩
  · have HZ0 := Lib.hid hl
    rw [decide_eq_false (show ¬ (x.tmod y).natAbs = 0 by omega)]
    clear hl
    go_wp2_with fail
    refine bodyPost_ret (v := .tuple #[.agg #[.bool false, (.slice none 0 0)], (.bool false), (.int .i64 0)]) (by
      rw [results_rec_two rfl]
      have hld := run_loadVar_row (P := Tryz.prog) _ r 24 24 #[.bool false, (.slice none 0 0)] (0, 0) _ br.out.store Tryz.underlying24 rfl (by kernel_rfl)
      simp [asAddr, Result.andThen, hld]) rfl ?_
    exact ⟨_, rfl, RawV.none _, store2_below B_W0.out HGG.out⟩
set_option maxHeartbeats 1000000 in
set_option maxRecDepth 100000 in
theorem r17_Exact_bad (u v : Value) (x y : Raw) (E : Int) (w : World) (hu : RawV w u x) (hv : RawV w v y) (hE : wrongE x y = E) (h0 : E ≠ 0) (hly : y.2.length ≤ 1099511627776) :
    Calls Tryz.prog 20 #[u, v] w fun e w' => e = .returned (.tuple #[none2, .bool false, .int .i64 E]) ∧ Below w.heap.size w w' := by
  obtain ⟨b1, A1, l1, c1, rfl, HU⟩ := hu.open
  obtain ⟨b2, A2, l2, c2, rfl, HV⟩ := hv.open
  have HE := Lib.hid (And.intro hE h0)
  have h0I : ((E : Int) != 0) = true := by rw [bne_iff_ne]; exact h0
  have HLY := Lib.hid hly
  clear hu hv hE h0 hly
  go_enter Tryz.func20, Tryz.ntmps20
  go_wp2_with fail
  obtain ⟨W0, g, h, r, hW, hg, hh, hr, bx, by_, br, G_g, S_W0, hb⟩ := boxH3 w (.bool b1) (.slice A1 l1 c1) (.bool b2) (.slice A2 l2 c2) (.bool false) (.slice none 0 0)
  rw [hW, hr, hh, hg]
  replace HU := Lib.hid (HU.out.stay hb)
  replace HV := Lib.hid (HV.out.stay hb)
  have B_W0 := Lib.hid (show Since w W0 from hb)
  clear hW hg hh hr hb
  have a0 := bx.out.cell0
  have a1 := bx.out.cell1
  have k0 := by_.out.cell0
  have k1 := by_.out.cell1
  go_wp2_with fail
  refine (r17_Trunc_bad _ _ x y E W0 HU.out HV.out HE.out.1 HE.out.2 HLY.out).mono ?_
  rintro e w1 ⟨rfl, hb⟩
  replace br := Lib.hid (br.out.stay hb)
  replace B_W0 := Lib.hid (B_W0.out.stay hb)
  clear hb a0 a1 k0 k1
  unfold none2
  go_upto_region 2 with (fail)
  obtain ⟨W2, gp, gm, hW, hg, hr, bpp, bmm, G_gp, S_W2, hb⟩ := boxH2 w1 (.bool false) (.slice none 0 0) (.bool false) (.slice none 0 0)
  rw [hW, hr, hg]
  replace br := Lib.hid (br.out.stay hb)
  replace B_W0 := Lib.hid (B_W0.out.stay hb)
  have B_W2 := Lib.hid (show Since w1 W2 from hb)
  clear hW hg hr hb
  have HGG := Lib.hid (show w.heap.size ≤ r by have h1 := G_g.out; omega)
  have c0 := br.out.cell0
  have c1 := br.out.cell1
  have fr := br.out.free
  go_wp2_with fail
  refine bodyPost_ret (v := .tuple #[.agg #[.bool false, (.slice none 0 0)], (.bool false), (.int .i64 E)]) (by
    rw [results_rec_two rfl]
    have hld := run_loadVar_row (P := Tryz.prog) _ r 24 24 #[.bool false, (.slice none 0 0)] (0, 0) _ br.out.store Tryz.underlying24 rfl (by kernel_rfl)
    simp [asAddr, Result.andThen, hld]) rfl ?_
  exact ⟨rfl, store2_below B_W0.out HGG.out⟩
set_option maxRecDepth 100000 in
theorem r17_Floor_bad (u v : Value) (x y : Raw) (E : Int) (w : World) (hu : RawV w u x) (hv : RawV w v y) (hE : wrongE x y = E) (h0 : E ≠ 0) (hly : y.2.length ≤ 1099511627776) :
    Calls Tryz.prog 18 #[u, v] w fun e w' => e = .returned (.tuple #[none2, none2, .int .i64 E]) ∧ Below w.heap.size w w' := by
  obtain ⟨b1, A1, l1, c1, rfl, HU⟩ := hu.open
  obtain ⟨b2, A2, l2, c2, rfl, HV⟩ := hv.open
  have HE := Lib.hid hE
  have h0I : ((E : Int) != 0) = true := by rw [bne_iff_ne]; exact h0
  have HLY := Lib.hid hly
  clear hu hv hE h0 hly
  go_enter Tryz.func18, Tryz.ntmps18
  go_wp2_with fail
  obtain ⟨W0, g, h, r, q, hW, hg, hh, hr, hq, bx, by_, br, bq, G_g, S_W0, hb⟩ := boxH4 w (.bool b1) (.slice A1 l1 c1) (.bool b2) (.slice A2 l2 c2) (.bool false) (.slice none 0 0) (.bool false) (.slice none 0 0)
  rw [hW, hq, hr, hh, hg]
  replace HU := Lib.hid (HU.out.stay hb)
  replace HV := Lib.hid (HV.out.stay hb)
  have B_W0 := Lib.hid (show Since w W0 from hb)
  clear hW hg hh hr hq hb
  have a0 := bx.out.cell0
  have a1 := bx.out.cell1
  have b0 := by_.out.cell0
  have b1 := by_.out.cell1
  go_wp2_with fail
  refine (r17_wrong _ _ x y W0 HU.out HV.out HLY.out).mono ?_
  rintro e w1 ⟨rfl, hb⟩
  rw [HE.out]
  replace bx := Lib.hid (bx.out.stay hb)
  replace by_ := Lib.hid (by_.out.stay hb)
  replace br := Lib.hid (br.out.stay hb)
  replace bq := Lib.hid (bq.out.stay hb)
  replace B_W0 := Lib.hid (B_W0.out.stay hb)
  clear hb a0 a1 b0 b1
  have hne : ¬ r = q := by have := G_g.out; omega
  have HGG := Lib.hid (show w.heap.size ≤ r ∧ w.heap.size ≤ q by have := G_g.out; omega)
  have c0 := br.out.cell0
  have c1' := br.out.cell1
  have f0 := br.out.free 0
  have f1 := br.out.free 1
  have d0 := bq.out.cell0
  have d1 := bq.out.cell1
  have g0 := bq.out.free 0
  have g1 := bq.out.free 1
  have bh := Box2.far (h := q) (a := .bool false) (b := .slice none 0 0) (br.out.store (a := .bool false) (b := .slice none 0 0)) (fun e => hne e.symm)
  have bk := (Box2.far (h := r) (a := .bool false) (b := .slice none 0 0) bq.out hne).store (a := .bool false) (b := .slice none 0 0)
  go_wp2_with fail
  refine bodyPost_ret (v := .tuple #[.agg #[.bool false, (.slice none 0 0)], .agg #[.bool false, (.slice none 0 0)], (.int .i64 E)]) (by
    rw [results_rec2 rfl]
    have hld := run_loadVar_row (P := Tryz.prog) _ r 24 24 #[.bool false, (.slice none 0 0)] (0, 0) _ bh Tryz.underlying24 rfl (by kernel_rfl)
    have hld2 := run_loadVar_row (P := Tryz.prog) _ q 24 24 #[.bool false, (.slice none 0 0)] (0, 0) _ bk Tryz.underlying24 rfl (by kernel_rfl)
    simp [asAddr, Result.andThen, hld, hld2]) rfl ?_
  exact ⟨rfl, store2_below (store2_below B_W0.out HGG.out.1) HGG.out.2⟩
set_option maxHeartbeats 1000000 in
set_option maxRecDepth 100000 in
theorem r17_Floor (u v : Value) (x y : Int) (w : World) (hu : IntV w u x) (hv : IntV w v y) (lx : lc x.natAbs ≤ 4096) (ly : lc y.natAbs ≤ 4096) (h0 : y ≠ 0) :
    Calls Tryz.prog 18 #[u, v] w fun e w' => ∃ p q, e = .returned (.tuple #[p, q, .int .i64 0]) ∧ IntV w' p (x.fdiv y) ∧ IntV w' q (x.fmod y) ∧ Below w.heap.size w w' := by
  obtain ⟨b1, A1, l1, c1, rfl, HU⟩ := hu.open
  obtain ⟨b2, A2, l2, c2, rfl, HV⟩ := hv.open
  have HWR := Lib.hid (wrongE_int lx ly h0)
  have HLX := Lib.hid lx
  have HLY := Lib.hid ly
  have H0 := Lib.hid h0
  clear hu hv lx ly h0
  go_enter Tryz.func18, Tryz.ntmps18
  go_wp2_with fail
  obtain ⟨W0, g, h, r, q, hW, hg, hh, hr, hq, bx, by_, br, bq, G_g, S_W0, hb⟩ := boxH4 w (.bool b1) (.slice A1 l1 c1) (.bool b2) (.slice A2 l2 c2) (.bool false) (.slice none 0 0) (.bool false) (.slice none 0 0)
  rw [hW, hq, hr, hh, hg]
  replace HU := Lib.hid (HU.out.stay hb)
  replace HV := Lib.hid (HV.out.stay hb)
  have B_W0 := Lib.hid (show Since w W0 from hb)
  clear hW hg hh hr hq hb
  have a0 := bx.out.cell0
  have a1 := bx.out.cell1
  have k0 := by_.out.cell0
  have k1 := by_.out.cell1
  go_wp2_with fail
  refine (r17_wrong _ _ _ _ W0 HU.out.raw HV.out.raw (by have h := HLY.out; unfold lc at h; show (limbs y.natAbs).length ≤ _; omega)).mono ?_
  rintro e w1 ⟨rfl, hb⟩
  rw [HWR.out]
  replace HU := Lib.hid (HU.out.stay hb)
  replace HV := Lib.hid (HV.out.stay hb)
  replace bx := Lib.hid (bx.out.stay hb)
  replace by_ := Lib.hid (by_.out.stay hb)
  replace br := Lib.hid (br.out.stay hb)
  replace bq := Lib.hid (bq.out.stay hb)
  replace B_W0 := Lib.hid (B_W0.out.stay hb)
  clear hb a0 a1 k0 k1
  have a0 := bx.out.cell0
  have a1 := bx.out.cell1
  have k0 := by_.out.cell0
  have k1 := by_.out.cell1
  go_wp2_with fail
  refine (kit_floor _ _ x y w1 HU.out HV.out (by have := HLX.out; omega) (by have := HLY.out; omega) H0.out).mono ?_
  rintro e w2 ⟨p, q', rfl, hp, hq, hb⟩
  obtain ⟨bp, Ap, lp, cp, rfl, HP⟩ := hp.open
  obtain ⟨bm, Am, lm, cm, rfl, HM⟩ := hq.open
  replace br := Lib.hid (br.out.stay hb)
  replace bq := Lib.hid (bq.out.stay hb)
  replace B_W0 := Lib.hid (B_W0.out.stay hb)
  clear hp hq hb a0 a1 k0 k1 HU HV bx by_
  have HQL := Lib.hid bq.out.lt
  go_upto_region 5 with (fail)
  obtain ⟨W2, gp, gm, hW, hg, hr, bpp, bmm, G_gp, S_W2, hb⟩ := boxH2 w2 (.bool bp) (.slice Ap lp cp) (.bool bm) (.slice Am lm cm)
  rw [hW, hr, hg]
  replace HP := Lib.hid (HP.out.stay hb)
  replace HM := Lib.hid (HM.out.stay hb)
  replace br := Lib.hid (br.out.stay hb)
  replace bq := Lib.hid (bq.out.stay hb)
  replace B_W0 := Lib.hid (B_W0.out.stay hb)
  have B_W2 := Lib.hid (show Since w2 W2 from hb)
  clear hW hg hr hb
  replace HQL := Lib.hid (show q < gp ∧ gp < gm by have h1 := HQL.out; have h2 := G_gp.out; omega)
  have hne : r ≠ q := by have := G_g.out; omega
  have HGG := Lib.hid (show w.heap.size ≤ r ∧ w.heap.size ≤ q ∧ w.heap.size ≤ W0.heap.size by have h1 := G_g.out; have h2 := S_W0.out; omega)
  have HX := Lib.hid (show (gp ≠ r ∧ gp ≠ q) ∧ (gm ≠ r ∧ gm ≠ q) by have h1 := G_g.out; have h2 := HQL.out; omega)
  have HNE := Lib.hid hne
  clear hne
  have a0 := later_duo bpp.out.cell0 HX.out.1.1 HX.out.1.2
  have a1 := later_duo bpp.out.cell1 HX.out.1.1 HX.out.1.2
  have k0 := later_duo bmm.out.cell0 HX.out.2.1 HX.out.2.2
  have k1 := later_duo bmm.out.cell1 HX.out.2.1 HX.out.2.2
  have HNN := Lib.hid (And.intro br.out.nums bq.out.nums)
  haveI : Nonempty (Later (Duo r q) W2) := ⟨⟨W2, (duo_drawn W2 HNN.out.1 HNN.out.2).back⟩⟩
  refine wp_region_stages (fun w' => ∃ δ : Later (Duo r q) W2, w' = δ.world) [(false, 0), (false, 1), (true, 2), (true, 3)] 4 [.reads [_, _], .loud _, .loud _] [_] (by kernel_rfl) (by kernel_rfl) rfl rfl ?_ ?_
  · exact ⟨⟨_, duo_drawn W2 HNN.out.1 HNN.out.2⟩, rfl⟩
  refine wpStages_reads ?_
  repeat (go_big_quiet_step (fail))
  refine wpQuiet_nil ?_
  clear a0 a1 k0 k1
  have ex : Ext Nix W2 (W2.drewN 1) := nix_drawn W2
  have hb : Below W2.heap.size W2 (W2.drewN 1) := below_drewN (Below.refl _ _) 1
  replace HP := Lib.hid (HP.out.stay hb)
  replace HM := Lib.hid (HM.out.stay hb)
  replace br := Lib.hid (br.out.stay hb)
  replace bq := Lib.hid (bq.out.stay hb)
  replace B_W0 := Lib.hid (B_W0.out.stay hb)
  clear hb
  replace ex := Lib.hid (duo_drawn W2 HNN.out.1 HNN.out.2)
  refine wpStages_loud rfl ?_
  intro K hK
  have c0 := br.out.cell0
  have c1' := br.out.cell1
  have f0 := br.out.free
  go_big_op
  clear c0 c1' f0
  obtain ⟨Wr, hWr, br', p⟩ := br.out.write (.bool bp) (.slice Ap lp cp)
  rw [hWr]
  replace ex := Lib.hid (ex.out.duo1 HNN.out.1 HNN.out.2 p.ext)
  replace HP := Lib.hid (HP.out.put p)
  replace HM := Lib.hid (HM.out.put p)
  replace bq := Lib.hid (bq.out.put p HNE.out.symm)
  replace B_W0 := Lib.hid (B_W0.out.put p HGG.out.1)
  refine hK _ _ ⟨⟨_, ex.out⟩, rfl⟩ ?_
  clear hK K hWr p br
  refine wpStages_loud rfl ?_
  intro K hK
  have c0 := bq.out.cell0
  have c1' := bq.out.cell1
  have f0 := bq.out.free
  go_big_op
  clear c0 c1' f0
  obtain ⟨Wq, hWq, bq', p⟩ := bq.out.write (.bool bm) (.slice Am lm cm)
  rw [hWq]
  replace ex := Lib.hid (ex.out.duo2 HNN.out.1 HNN.out.2 p.ext)
  replace HP := Lib.hid (HP.out.put p)
  replace HM := Lib.hid (HM.out.put p)
  replace br' := Lib.hid (br'.out.put p HNE.out)
  replace B_W0 := Lib.hid (B_W0.out.put p HGG.out.2.1)
  refine hK _ _ ⟨⟨_, ex.out⟩, rfl⟩ ?_
  clear hK K hWq p bq
  refine wpStages_nil ?_
  go_wp2_with fail
  refine bodyPost_ret (v := .tuple #[.agg #[.bool bp, (.slice Ap lp cp)], .agg #[.bool bm, (.slice Am lm cm)], (.int .i64 0)]) (by
    rw [results_rec2 rfl]
    have hld := run_loadVar_row (P := Tryz.prog) _ r 24 24 #[.bool bp, (.slice Ap lp cp)] (0, 0) _ br'.out Tryz.underlying24 rfl (by kernel_rfl)
    have hld2 := run_loadVar_row (P := Tryz.prog) _ q 24 24 #[.bool bm, (.slice Am lm cm)] (0, 0) _ bq'.out Tryz.underlying24 rfl (by kernel_rfl)
    simp [asAddr, Result.andThen, hld, hld2]) rfl ?_
  exact ⟨_, _, rfl, HP.out, HM.out, B_W0.out⟩
set_option maxHeartbeats 1000000 in
set_option maxRecDepth 100000 in
theorem r17_Mod (u v : Value) (x y : Int) (w : World) (hu : IntV w u x) (hv : IntV w v y) (lx : lc x.natAbs ≤ 4096) (ly : lc y.natAbs ≤ 4096) (h0 : y ≠ 0) :
    Calls Tryz.prog 21 #[u, v] w fun e w' => ∃ p, e = .returned (.tuple #[p, .int .i64 (modE y)]) ∧ RawV w' p (modR x y) ∧ Below w.heap.size w w' := by
  obtain ⟨b1, A1, l1, c1, rfl, HU⟩ := hu.open
  obtain ⟨b2, A2, l2, c2, rfl, HV⟩ := hv.open
  have HP2 := Lib.hid HV.out.parts.1
  have HLX := Lib.hid lx
  have HLY := Lib.hid ly
  have H0 := Lib.hid h0
  clear hu hv lx ly h0
  go_enter Tryz.func21, Tryz.ntmps21
  go_wp2_with fail
  obtain ⟨W0, g, h, r, hW, hg, hh, hr, bx, by_, br, G_g, S_W0, hb⟩ := boxH3 w (.bool b1) (.slice A1 l1 c1) (.bool b2) (.slice A2 l2 c2) (.bool false) (.slice none 0 0)
  rw [hW, hr, hh, hg]
  replace HU := Lib.hid (HU.out.stay hb)
  replace HV := Lib.hid (HV.out.stay hb)
  have B_W0 := Lib.hid (show Since w W0 from hb)
  clear hW hg hh hr hb
  have a0 := bx.out.cell0
  have a1 := bx.out.cell1
  have k0 := by_.out.cell0
  have k1 := by_.out.cell1
  go_wp2_with fail
  refine (r17_Floor _ _ x y W0 HU.out HV.out HLX.out HLY.out H0.out).mono ?_
  rintro e w1 ⟨p, q', rfl, hp, hq, hb⟩
  obtain ⟨bp, Ap, lp, cp, rfl, HP⟩ := hp.open
  obtain ⟨bm, Am, lm, cm, rfl, HM⟩ := hq.open
  clear hp hq
  replace by_ := Lib.hid (by_.out.stay hb)
  replace br := Lib.hid (br.out.stay hb)
  replace B_W0 := Lib.hid (B_W0.out.stay hb)
  clear hb a0 a1 k0 k1
  go_upto_region 2 with (fail)
  obtain ⟨W2, gp, gm, hW, hg, hr, bpp, bmm, G_gp, S_W2, hb⟩ := boxH2 w1 (.bool bp) (.slice Ap lp cp) (.bool bm) (.slice Am lm cm)
  rw [hW, hr, hg]
  replace HM := Lib.hid (HM.out.stay hb)
  replace by_ := Lib.hid (by_.out.stay hb)
  replace br := Lib.hid (br.out.stay hb)
  replace B_W0 := Lib.hid (B_W0.out.stay hb)
  have B_W2 := Lib.hid (show Since w1 W2 from hb)
  clear hW hg hr hb
  have HGG := Lib.hid (show w.heap.size ≤ r ∧ w.heap.size ≤ W0.heap.size by have h1 := G_g.out; have h2 := S_W0.out; omega)
  have a0 := by_.out.cell0
  have a1 := by_.out.cell1
  have k0 := bmm.out.cell0
  have k1 := bmm.out.cell1
  have c0 := br.out.cell0
  have c1 := br.out.cell1
  have fr := br.out.free
  by_cases hy : y < 0
  · obtain rfl : b2 = true := by rw [HP2.out]; exact decide_eq_true hy
    have HY := Lib.hid hy
    clear hy
    go_wp2_with fail
    refine bodyPost_ret (v := .tuple #[.agg #[.bool false, (.slice none 0 0)], (.int .i64 2)]) (by
      rw [results_cell_tmp rfl]
      have hld := run_loadVar_row (P := Tryz.prog) _ r 24 24 #[.bool false, (.slice none 0 0)] (0, 0) _ br.out.store Tryz.underlying24 rfl (by kernel_rfl)
      simp [asAddr, Result.andThen, hld]) rfl ?_
    have e1 : modE y = 2 := if_pos HY.out
    have e2 : modR x y = (false, []) := if_pos HY.out
    rw [e1, e2]
    exact ⟨_, rfl, RawV.none _, store2_below B_W0.out HGG.out.1⟩
  · obtain rfl : b2 = false := by rw [HP2.out]; exact decide_eq_false hy
    have HY := Lib.hid hy
    clear hy
    go_wp2_with fail
    refine bodyPost_ret (v := .tuple #[.agg #[.bool bm, (.slice Am lm cm)], (.int .i64 0)]) (by
      rw [results_cell_tmp rfl]
      have hld := run_loadVar_row (P := Tryz.prog) _ r 24 24 #[.bool bm, (.slice Am lm cm)] (0, 0) _ br.out.store Tryz.underlying24 rfl (by kernel_rfl)
      simp [asAddr, Result.andThen, hld]) rfl ?_
    have e1 : modE y = 0 := if_neg (by have := HY.out; omega)
    have e2 : modR x y = rawOf (x.fmod y) := if_neg (by have := HY.out; omega)
    rw [e1, e2]
    exact ⟨_, rfl, (HM.out.ext2 br.out.nums _ _).raw, store2_below B_W0.out HGG.out.1⟩
set_option maxHeartbeats 1000000 in
set_option maxRecDepth 100000 in
theorem r17_Mod_bad (u v : Value) (x y : Raw) (E : Int) (w : World) (hu : RawV w u x) (hv : RawV w v y) (hE : wrongE x y = E) (h0 : E ≠ 0) (hly : y.2.length ≤ 1099511627776) :
    Calls Tryz.prog 21 #[u, v] w fun e w' => e = .returned (.tuple #[none2, .int .i64 E]) ∧ Below w.heap.size w w' := by
  obtain ⟨b1, A1, l1, c1, rfl, HU⟩ := hu.open
  obtain ⟨b2, A2, l2, c2, rfl, HV⟩ := hv.open
  have HE := Lib.hid (And.intro hE h0)
  have h0I : ((E : Int) != 0) = true := by rw [bne_iff_ne]; exact h0
  have h0J : ((E : Int) == 0) = false := beq_eq_false_iff_ne.2 h0
  have HLY := Lib.hid hly
  clear hu hv hE h0 hly
  go_enter Tryz.func21, Tryz.ntmps21
  go_wp2_with fail
  obtain ⟨W0, g, h, r, hW, hg, hh, hr, bx, by_, br, G_g, S_W0, hb⟩ := boxH3 w (.bool b1) (.slice A1 l1 c1) (.bool b2) (.slice A2 l2 c2) (.bool false) (.slice none 0 0)
  rw [hW, hr, hh, hg]
  replace HU := Lib.hid (HU.out.stay hb)
  replace HV := Lib.hid (HV.out.stay hb)
  have B_W0 := Lib.hid (show Since w W0 from hb)
  clear hW hg hh hr hb
  have a0 := bx.out.cell0
  have a1 := bx.out.cell1
  have k0 := by_.out.cell0
  have k1 := by_.out.cell1
  go_wp2_with fail
  refine (r17_Floor_bad _ _ x y E W0 HU.out HV.out HE.out.1 HE.out.2 HLY.out).mono ?_
  rintro e w1 ⟨rfl, hb⟩
  replace br := Lib.hid (br.out.stay hb)
  replace B_W0 := Lib.hid (B_W0.out.stay hb)
  clear hb a0 a1 k0 k1
  unfold none2
  go_upto_region 2 with (fail)
  obtain ⟨W2, gp, gm, hW, hg, hr, bpp, bmm, G_gp, S_W2, hb⟩ := boxH2 w1 (.bool false) (.slice none 0 0) (.bool false) (.slice none 0 0)
  rw [hW, hr, hg]
  replace br := Lib.hid (br.out.stay hb)
  replace B_W0 := Lib.hid (B_W0.out.stay hb)
  have B_W2 := Lib.hid (show Since w1 W2 from hb)
  clear hW hg hr hb
  have HGG := Lib.hid (show w.heap.size ≤ r by have h1 := G_g.out; omega)
  have c0 := br.out.cell0
  have c1 := br.out.cell1
  have fr := br.out.free
  go_wp2_with fail
  refine bodyPost_ret (v := .tuple #[.agg #[.bool false, (.slice none 0 0)], (.int .i64 E)]) (by
    rw [results_cell_tmp rfl]
    have hld := run_loadVar_row (P := Tryz.prog) _ r 24 24 #[.bool false, (.slice none 0 0)] (0, 0) _ br.out.store Tryz.underlying24 rfl (by kernel_rfl)
    simp [asAddr, Result.andThen, hld]) rfl ?_
  exact ⟨rfl, store2_below B_W0.out HGG.out⟩
end Go.Proofs.YtonbhpadoplpkaaGreat
