import Derived.Test.YtmnfokapdipcdaaLimb3
/- The package limb, on: Sub, Of. -/
namespace Go.Proofs.Ytmnfokapdipcdaa
open Go.RowKit Go.Deep
theorem IntV.open {w : World} {v : Value} {z : Int} (h : IntV w v z) : ∃ b A l c, v = .agg #[.bool b, .slice A l c] ∧ Hid (IntV w (.agg #[.bool b, .slice A l c]) z) := by
  obtain ⟨A, l, c, rfl, hl, hc, hlim⟩ := h
  exact ⟨_, A, l, c, rfl, Lib.hid ⟨A, l, c, rfl, hl, hc, hlim⟩⟩
theorem lc_neg {z : Int} (h : lc z.natAbs ≤ 4096) : lc (-z).natAbs ≤ 4096 := by rwa [Int.natAbs_neg]
set_option maxRecDepth 100000 in
theorem limb_Sub (u v : Value) (x y : Int) (w : World) (hx : IntV w u x) (hy : IntV w v y) (lx : lc x.natAbs ≤ 4096) (ly : lc y.natAbs ≤ 4096) :
    Calls Try.prog 45 #[u, v] w fun e w' => ∃ v', e = .returned (.tuple #[v', .int .i64 (longE (x - y))]) ∧ RawAt w' w.heap.size v' (longR (x - y)) ∧ Below w.heap.size w w' := by
  obtain ⟨s1, A1, l1, c1, rfl, HU⟩ := hx.open
  obtain ⟨s2, A2, l2, c2, rfl, HV⟩ := hy.open
  have LX := Lib.hid lx
  have LY := Lib.hid ly
  clear hx hy lx ly
  go_enter Try.func45, Try.ntmps45
  go_wp2_with fail
  obtain ⟨W0, g, h, r, hW, hg, hh, hr, hgr, bx, by_, br, hbw, hsz⟩ := box_three w (.bool s1) (.slice A1 l1 c1) (.bool s2) (.slice A2 l2 c2) (.bool false) (.slice none 0 0)
  have HW := Lib.hid (show w.heap.size = g from hg)
  rw [hW, hr, hh, hg]
  have HBW := Lib.hid hbw
  have HBWS := Lib.hid (show Below w.heap.size w W0 from by rw [hg]; exact hbw)
  clear hW hr hg hh hbw
  refine (limb_Neg _ y W0 (HV.out.below HBWS.out) LY.out).mono ?_
  rintro e w1 ⟨v1, rfl, hv1, hb1⟩
  obtain ⟨b1, B1, m1, d1, rfl, HV1⟩ := hv1.open
  have hbA : Below w1.heap.size w1 (w1.alloc (.cells #[.bool b1, .slice B1 m1 d1] 36)) := (Below.refl _ _).alloc (Nat.le_refl _) _
  have hb1A : Below W0.heap.size W0 (w1.alloc (.cells #[.bool b1, .slice B1 m1 d1] 36)) := hb1.trans (hbA.mono hb1.size)
  have bc : Box2 (w1.alloc (.cells #[.bool b1, .slice B1 m1 d1] 36)) w1.heap.size (.bool b1) (.slice B1 m1 d1) := heap_alloc_new w1 _
  have bx := bx.below hb1A bx.lt
  have br := br.below hb1A br.lt
  have HU2 := Lib.hid (((HU.out.below HBWS.out).below hb1A))
  have HV2 := Lib.hid (HV1.out.int.below hbA)
  have hszr := br.lt
  have HBW2 := Lib.hid (HBW.out.trans (hb1A.mono (by omega)))
  have a0 := bx.cell0
  have a1 := bx.cell1
  have e0 := bc.cell0
  have e1 := bc.cell1
  clear hv1
  go_wp2_with fail
  refine (limb_Add _ _ x (-y) _ HU2.out HV2.out LX.out (lc_neg LY.out)).mono ?_
  rintro e w3 ⟨v3, rfl, hv3, hb3⟩
  rw [← Int.sub_eq_add_neg] at hv3 ⊢
  obtain ⟨E, hE⟩ : ∃ E : Int, longE (x - y) = E := ⟨_, rfl⟩
  have HE := Lib.hid hE
  rw [hE]
  clear hE
  obtain ⟨b3, B3, m3, d3, rfl, HV3⟩ := hv3.open
  have br3 := br.below hb3 br.lt
  have HB3 := Lib.hid (HBW2.out.trans (hb3.mono (by omega)))
  have HR := Lib.hid (HV3.out.ext (ext_store2 (a := .bool b3) (b := .slice B3 m3 d3) br3.nums) (fun i hi => by subst hi; exact hszr))
  have d0 := br3.cell0
  have d1' := br3.cell1
  have fr := br3.free
  have HSZ := Lib.hid (show g ≤ (w1.alloc (.cells #[.bool b1, .slice B1 m1 d1] 36)).heap.size by omega)
  clear hv3 hb3 hb1 hbA hb1A a0 a1 e0 e1 hszr
  go_wp2_with fail
  refine bodyPost_ret (v := .tuple #[.agg #[.bool b3, (.slice B3 m3 d3)], (.int .i64 E)]) (by
    rw [results_cell_tmp rfl]
    have hld := run_loadVar_row (P := Try.prog) _ r 36 36 #[.bool b3, (.slice B3 m3 d3)] (0, 0) _ br3.store Try.underlying36 rfl (by kernel_rfl)
    simp [asAddr, Result.andThen, hld]) rfl ?_
  rw [HE.out]
  exact ⟨_, rfl, HR.out.since (base' := w.heap.size) (by rw [HW.out]; exact HSZ.out), by rw [HW.out]; exact store2_below HB3.out (by omega)⟩
set_option maxRecDepth 100000 in
theorem limb_Of (n : Int) (w : World) (h1 : -9223372036854775808 ≤ n) (h2 : n < 9223372036854775808) :
    Calls Try.prog 101 #[.int .i64 n] w fun e w' => ∃ v', e = .returned v' ∧ RawAt w' w.heap.size v' (rawOf n) ∧ Below w.heap.size w w' := by
  by_cases hn : n < 0
  · obtain ⟨k, hk⟩ : ∃ k : Nat, n = -(k : Int) := ⟨n.natAbs, by omega⟩
    have HK := Lib.hid hk
    obtain ⟨r, e1, e2⟩ := wrap_minus (k := k) (by omega) (by omega)
    rw [← hk] at e1
    have HW := Lib.hid (show k < W64 by rw [W64_eq]; omega)
    have HN := Lib.hid hn
    clear hk h1 h2
    go_enter Try.func101, Try.ntmps101
    go_wp2_with fail
    have HSG := Lib.hid (show signed true k = n by rw [HK.out]; rfl)
    have hex : ∃ (W : World) (g h : Nat), (w.alloc (.cells #[.bool false, .slice none 0 0] 36)).alloc (.cells #[.int .u64 (k : Int)] 33) = W ∧ w.heap.size = g ∧ w.heap.size + 1 = h ∧ W.heap.size = g + 2 ∧ h = g + 1 ∧ Box2 W g (.bool false) (.slice none 0 0) ∧ Lim W (g + 2) (some ⟨h, 0, none⟩) [k] ∧ Fresh W (g + 1) (some ⟨h, 0, none⟩) 1 ∧ Below g w W := by
      refine ⟨_, _, _, rfl, rfl, rfl, by simp, rfl, ?_, ?_, ?_, ((Below.refl _ _).alloc (Nat.le_refl _) _).alloc (by simp) _⟩
      · unfold Box2
        rw [Below.heap_alloc _ _ _ (by simp)]; exact heap_alloc_new w _
      · have h1 := Lim.one (w := w.alloc (.cells #[.bool false, .slice none 0 0] 36)) HW.out
        simpa using h1
      · have h1 := heap_alloc_new (w.alloc (.cells #[.bool false, .slice none 0 0] 36)) (.cells #[.int .u64 (k : Int)] 33)
        exact .inr ⟨_, _, rfl, Nat.le_refl _, by simpa using h1, by simp⟩
    obtain ⟨W1, g, h, hW1, hg, hh, hsz, hhg, bx, hlim, hfr, hbw⟩ := hex
    rw [hW1, hh]
    have HG := Lib.hid hg
    have HHG := Lib.hid hhg
    rw [hg]
    clear hW1 hh hg hhg
    refine (limb_told' true (some ⟨h, 0, none⟩) 1 1 (g + 1) [k] W1 (by rw [hsz]; exact hlim) hfr rfl (Nat.le_refl _) (by omega)).mono ?_
    rintro e w2 ⟨v2, rfl, hv, hb2⟩
    have e3 : val [k] = k := by simp
    rw [e3, toldF_signed HSG.out] at hv ⊢
    have HLN := Lib.hid (show lc (n).natAbs ≤ 4096 by
      have h1 : (n).natAbs = k := by rw [← HSG.out, signed_natAbs]
      rw [h1]
      exact Nat.le_trans (lc_limb HW.out) (by omega))
    rw [longR_ok HLN.out, longE_ok HLN.out] at hv
    rw [longE_ok HLN.out, longR_ok HLN.out]
    obtain ⟨bv, Av, lv, cv, rfl, HV⟩ := hv.open
    have bx2 := bx.below hb2 bx.lt
    have HB := Lib.hid (show Below g w w2 from hbw.trans (hb2.mono (by omega)))
    have hbA : Below w2.heap.size w2 (w2.alloc (.cells #[.bool bv, .slice Av lv cv] 36)) := (Below.refl _ _).alloc (Nat.le_refl _) _
    have bxA := bx2.below hbA bx2.lt
    have HE := Lib.hid ((HV.out.below hbA).ext (ext_store2 (a := .bool bv) (b := .slice Av lv cv) bxA.nums) (fun i hi => by subst hi; omega))
    have HBA := Lib.hid (HB.out.trans (hbA.mono (by have := hb2.size; omega)))
    have d0 := bxA.cell0
    have d1 := bxA.cell1
    have fr := bxA.free
    clear hv hb2 hbw hlim hfr hbA
    go_wp2_with fail
    refine bodyPost_ret (results_cell_row rfl _ _ g 36 #[.bool bv, (.slice Av lv cv)] (0, 0) _ (by rfl) bxA.store Try.underlying36 rfl (by kernel_rfl)) rfl ?_
    exact ⟨_, rfl, HE.out.since (base' := w.heap.size) (by rw [HG.out]; omega), by rw [HG.out]; exact store2_below HBA.out (Nat.le_refl _)⟩
  · obtain ⟨k, hk⟩ : ∃ k : Nat, n = (k : Int) := ⟨n.natAbs, by omega⟩
    have e1 := wrap_plus (k := k) (by omega)
    subst hk
    have HW := Lib.hid (show k < W64 by rw [W64_eq]; omega)
    clear h1 h2
    go_enter Try.func101, Try.ntmps101
    go_wp2_with fail
    have HSG := Lib.hid (show signed false k = (k : Int) from rfl)
    have hex : ∃ (W : World) (g h : Nat), (w.alloc (.cells #[.bool false, .slice none 0 0] 36)).alloc (.cells #[.int .u64 (k : Int)] 33) = W ∧ w.heap.size = g ∧ w.heap.size + 1 = h ∧ W.heap.size = g + 2 ∧ h = g + 1 ∧ Box2 W g (.bool false) (.slice none 0 0) ∧ Lim W (g + 2) (some ⟨h, 0, none⟩) [k] ∧ Fresh W (g + 1) (some ⟨h, 0, none⟩) 1 ∧ Below g w W := by
      refine ⟨_, _, _, rfl, rfl, rfl, by simp, rfl, ?_, ?_, ?_, ((Below.refl _ _).alloc (Nat.le_refl _) _).alloc (by simp) _⟩
      · unfold Box2
        rw [Below.heap_alloc _ _ _ (by simp)]; exact heap_alloc_new w _
      · have h1 := Lim.one (w := w.alloc (.cells #[.bool false, .slice none 0 0] 36)) HW.out
        simpa using h1
      · have h1 := heap_alloc_new (w.alloc (.cells #[.bool false, .slice none 0 0] 36)) (.cells #[.int .u64 (k : Int)] 33)
        exact .inr ⟨_, _, rfl, Nat.le_refl _, by simpa using h1, by simp⟩
    obtain ⟨W1, g, h, hW1, hg, hh, hsz, hhg, bx, hlim, hfr, hbw⟩ := hex
    rw [hW1, hh]
    have HG := Lib.hid hg
    have HHG := Lib.hid hhg
    rw [hg]
    clear hW1 hh hg hhg
    refine (limb_told' false (some ⟨h, 0, none⟩) 1 1 (g + 1) [k] W1 (by rw [hsz]; exact hlim) hfr rfl (Nat.le_refl _) (by omega)).mono ?_
    rintro e w2 ⟨v2, rfl, hv, hb2⟩
    have e3 : val [k] = k := by simp
    rw [e3, toldF_signed HSG.out] at hv ⊢
    have HLN := Lib.hid (show lc ((k : Int)).natAbs ≤ 4096 by
      have h1 : ((k : Int)).natAbs = k := by rw [← HSG.out, signed_natAbs]
      rw [h1]
      exact Nat.le_trans (lc_limb HW.out) (by omega))
    rw [longR_ok HLN.out, longE_ok HLN.out] at hv
    rw [longE_ok HLN.out, longR_ok HLN.out]
    obtain ⟨bv, Av, lv, cv, rfl, HV⟩ := hv.open
    have bx2 := bx.below hb2 bx.lt
    have HB := Lib.hid (show Below g w w2 from hbw.trans (hb2.mono (by omega)))
    have hbA : Below w2.heap.size w2 (w2.alloc (.cells #[.bool bv, .slice Av lv cv] 36)) := (Below.refl _ _).alloc (Nat.le_refl _) _
    have bxA := bx2.below hbA bx2.lt
    have HE := Lib.hid ((HV.out.below hbA).ext (ext_store2 (a := .bool bv) (b := .slice Av lv cv) bxA.nums) (fun i hi => by subst hi; omega))
    have HBA := Lib.hid (HB.out.trans (hbA.mono (by have := hb2.size; omega)))
    have d0 := bxA.cell0
    have d1 := bxA.cell1
    have fr := bxA.free
    clear hv hb2 hbw hlim hfr hbA
    go_wp2_with fail
    refine bodyPost_ret (results_cell_row rfl _ _ g 36 #[.bool bv, (.slice Av lv cv)] (0, 0) _ (by rfl) bxA.store Try.underlying36 rfl (by kernel_rfl)) rfl ?_
    exact ⟨_, rfl, HE.out.since (base' := w.heap.size) (by rw [HG.out]; omega), by rw [HG.out]; exact store2_below HBA.out (Nat.le_refl _)⟩
end Go.Proofs.Ytmnfokapdipcdaa
