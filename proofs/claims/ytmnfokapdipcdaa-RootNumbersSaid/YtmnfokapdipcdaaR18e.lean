import Derived.Test.YtmnfokapdipcdaaR18d
import Derived.Test.YtmnfokapdipcdaaRef11
/- The reference of layer 18: Square. -/
namespace Go.Proofs.Ytmnfokapdipcdaa
open Go.RowKit Go.Deep
set_option maxHeartbeats 1000000 in
set_option maxRecDepth 100000 in
theorem r18_Square (v : Value) (A : Nat) (w : World) (h : IntV w v (A : Int)) (hl : lc A ≤ 4096) :
    Calls Try.prog 35 #[v] w fun e w' => ∃ u r, e = .returned (.tuple #[u, r, .int .i64 0]) ∧ RawAt w' w.heap.size u (rawOf (isqrt A : Nat)) ∧ RawAt w' w.heap.size r (rawOf (A - isqrt A * isqrt A : Nat)) ∧ Below w.heap.size w w' := by
  obtain ⟨s1, A1, l1, c1, rfl, HU⟩ := h.open
  have HL := Lib.hid hl
  obtain rfl : s1 = false := by rw [HU.out.parts.1]; exact decide_eq_false (by omega)
  clear h hl
  go_enter Try.func35, Try.ntmps35
  go_wp2_with fail
  obtain ⟨W0, g, h, r, hW, hg, hh, hr, hgr, bx, by_, br, hbw, hsz⟩ := box_three w (.bool false) (.slice A1 l1 c1) (.bool false) (.slice none 0 0) (.bool false) (.slice none 0 0)
  have HGG := Lib.hid (show w.heap.size ≤ h ∧ w.heap.size ≤ r ∧ h ≠ r by omega)
  have HBWS := Lib.hid (show Below w.heap.size w W0 from by rw [hg]; exact hbw)
  have HU0 := Lib.hid (HU.out.below HBWS.out)
  rw [hW, hr, hh, hg]
  clear hW hr hh hg hgr hsz hbw
  refine (ref_right_int _ (A : Int) W0 HU0.out (by rw [Int.natAbs_natCast]; exact HL.out)).mono ?_
  rintro e w1 ⟨rfl, hb1⟩
  have bx1 := bx.below hb1 bx.lt
  have by1 := by_.below hb1 by_.lt
  have br1 := br.below hb1 br.lt
  have HB1 := Lib.hid (HBWS.out.trans (hb1.mono HBWS.out.size))
  have HU1 := Lib.hid (HU0.out.below hb1)
  have a0 := bx1.cell0
  have a1 := bx1.cell1
  clear bx by_ br hb1 HBWS HU0
  go_wp2_with fail
  have hn1 : NatAt w1 (.slice A1 l1 c1) A := by have h := HU1.out.nat; rwa [Int.natAbs_natCast] at h
  refine (nat_root _ A w1 hn1 HL.out).mono ?_
  rintro e w2 ⟨r2, rfl, hr2, hb2⟩
  have HN2 := Lib.hid (hn1.below hb2)
  have HR2 := Lib.hid hr2
  have HB2 := Lib.hid (HB1.out.trans (hb2.mono HB1.out.size))
  have bx2 := bx1.below hb2 bx1.lt
  have by2 := by1.below hb2 by1.lt
  have br2 := br1.below hb2 br1.lt
  clear a0 a1 bx1 by1 br1 hb2 hr2 hn1
  go_upto_region 4 with (fail)
  have r0 := later_cell bx2.cell0
  have r1 := later_cell bx2.cell1
  refine wp_region_stages (fun w' => ∃ δ : Later Nix w2, w' = δ.world) [(false, 0), (false, 2), (false, 3), (false, 4), (false, 5), (true, 1), (true, 6)] 7 [.reads [_, _, _, _, _], .loud _, .loud _] [_, _, _, _, _] (by kernel_rfl) (by kernel_rfl) rfl rfl ?_ ?_
  · exact ⟨⟨_, nix_drawn w2⟩, rfl⟩
  refine wpStages_reads ?_
  repeat (go_big_quiet_step (fail))
  refine wpQuiet_nil ?_
  refine wpStages_loud rfl ?_
  intro K hK
  go_big_op
  have HLR := Lib.hid (show lc (isqrt A) ≤ 4096 from Nat.le_trans (limbs_mono (isqrt_self A)) HL.out)
  have HLM := Lib.hid (show lc (isqrt A * isqrt A) ≤ 4096 from Nat.le_trans (lc_mono (isqrt_spec A).1) HL.out)
  refine (r18_told false r2 (isqrt A) (w2.drewN 1) (HR2.out.drewN 1) HLR.out).mono ?_
  rintro e w3 ⟨u3, rfl, hu3, hb3⟩
  have he3 : Ext Nix w2 w3 := (nix_drawn w2).later (Ext.of_below hb3)
  have HU3 := Lib.hid (hu3.since (show w.heap.size ≤ (w2.drewN 1).heap.size from HB2.out.size))
  obtain ⟨bu, Au, lu, cu, rfl, -⟩ := hu3.open
  refine hK _ _ ⟨⟨w3, he3⟩, rfl⟩ ?_
  clear hK K
  refine wpStages_loud rfl ?_
  intro K hK
  go_big_op
  have hb3' := he3.below
  refine (nat_mul (HR2.out.below hb3') (HR2.out.below hb3') (by have := HLR.out; omega) (by have := HLR.out; omega)).mono ?_
  rintro e w4 ⟨p4, rfl, hp4, -, hb4⟩
  have he4 : Ext Nix w2 w4 := he3.later (Ext.of_below hb4)
  refine hK _ _ ⟨⟨w4, he4⟩, rfl⟩ ?_
  clear hK K r0 r1
  refine wpStages_nil ?_
  have hb4' := he4.below
  have HU4 := Lib.hid (HU3.out.below hb4)
  have HN4 := Lib.hid (HN2.out.below hb4')
  have HP4 := Lib.hid hp4
  have by4 := by2.below hb4' by2.lt
  have br4 := br2.below hb4' br2.lt
  have HB4 := Lib.hid (HB2.out.trans (hb4'.mono HB2.out.size))
  clear he3 he4 hb3 hb3' hb4 hb4' hu3 hp4 bx2 by2 br2
  go_wp2_with fail
  refine (nat_sub HN4.out HP4.out (by have := HL.out; omega) (by have := HLM.out; omega) (isqrt_spec A).1).mono ?_
  rintro e w5 ⟨d5, rfl, hd5, -, hb5⟩
  have HU5 := Lib.hid (HU4.out.below hb5)
  have HD5 := Lib.hid hd5
  have by5 := by4.below hb5 by4.lt
  have br5 := br4.below hb5 br4.lt
  have HB5 := Lib.hid (HB4.out.trans (hb5.mono HB4.out.size))
  clear hb5 hd5 by4 br4
  go_wp2_with fail
  refine (r18_told false d5 _ w5 HD5.out (Nat.le_trans (lc_mono (Nat.sub_le _ _)) HL.out)).mono ?_
  rintro e w6 ⟨v6, rfl, hv6, hb6⟩
  have HU6 := Lib.hid (HU5.out.below hb6)
  have HV6 := Lib.hid (hv6.since HB5.out.size)
  obtain ⟨bv, Av, lv, cv, rfl, -⟩ := hv6.open
  have by6 := by5.below hb6 by5.lt
  have br6 := br5.below hb6 br5.lt
  have HB6 := Lib.hid (HB5.out.trans (hb6.mono HB5.out.size))
  clear hb6 hv6 by5 br5
  have n0 := by6.nums
  have a0 := by6.cell0
  have a1 := by6.cell1
  have f0 := by6.free 0
  have f1 := by6.free 1
  have c0 := br6.cell0
  have c1' := br6.cell1
  have g0 := br6.free 0
  have g1 := br6.free 1
  have hne : ¬ h = r := HGG.out.2.2
  go_wp2_with fail
  have bh := Box2.far (h := r) (a := .bool bv) (b := .slice Av lv cv) (by6.store (a := .bool bu) (b := .slice Au lu cu)) (fun e => hne e.symm)
  have brr := Box2.far (h := h) (a := .bool bu) (b := .slice Au lu cu) br6 hne
  refine bodyPost_ret (v := .tuple #[.agg #[.bool bu, (.slice Au lu cu)], .agg #[.bool bv, (.slice Av lv cv)], (.int .i64 0)]) (by
    rw [results_rec2 rfl]
    have hld := run_loadVar_row (P := Try.prog) _ h 36 36 #[.bool bu, (.slice Au lu cu)] (0, 0) _ bh Try.underlying36 rfl (by kernel_rfl)
    have hld2 := run_loadVar_row (P := Try.prog) _ r 36 36 #[.bool bv, (.slice Av lv cv)] (0, 0) _ brr.store Try.underlying36 rfl (by kernel_rfl)
    simp [asAddr, Result.andThen, hld, hld2]) rfl ?_
  exact ⟨_, _, rfl, (HU6.out.store2 n0 _ _).store2 brr.nums _ _, (HV6.out.store2 n0 _ _).store2 brr.nums _ _, store2_below (store2_below HB6.out HGG.out.1) HGG.out.2.1⟩
end Go.Proofs.Ytmnfokapdipcdaa
