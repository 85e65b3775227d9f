import Derived.Test.YtmnfokapdipcdaaLaw18
/- The law of layer 18: awake. -/
namespace Go.Proofs.Ytmnfokapdipcdaa
open Go.RowKit Go.Deep
set_option maxHeartbeats 2000000 in
set_option maxRecDepth 100000 in
theorem law18_awake (w : World) : Calls Try.prog 33 #[] w fun o w' => o = .returned (.bool true) ∧ Below w.heap.size w w' := by
  go_enter Try.func33, Try.ntmps33
  go_wp2_with fail
  refine (law18_whole false 10 w (by rw [W64_eq]; omega)).mono ?_
  rintro e w1 ⟨v1, rfl, h1, hb1⟩
  have HI1 : Hid (IntV w1 v1 ((10 : Nat) : Int)) := Lib.hid (by
    have e : rawOf ((10 : Nat) : Int) = (false, [10]) := raw_small (by decide) (by rw [W64_eq]; decide)
    have h : RawV w1 v1 (rawOf ((10 : Nat) : Int)) := by rw [e]; exact h1
    exact h)
  have HB1 := Lib.hid hb1
  clear h1 hb1
  go_wp2_with fail
  refine (root_Square v1 10 w1 HI1.out (Nat.le_trans (lc_limb (by rw [W64_eq]; omega)) (by omega))).mono ?_
  rintro e w2 ⟨u2, s2, rfl, hu2, hs2, hb2⟩
  rw [root10] at hu2 hs2
  have HB2 := Lib.hid (HB1.out.trans (hb2.mono HB1.out.size))
  have HU2 := Lib.hid hu2.rawV
  have HS2 := Lib.hid hs2.rawV
  obtain ⟨bu, Au, lu, cu, rfl, -⟩ := hu2.open
  obtain ⟨bs, As, ls, cs, rfl, -⟩ := hs2.open
  clear hb2 HI1 HB1 hu2 hs2
  go_wp2_with fail
  obtain ⟨W3, g1, g2, hW, hg1, hg2, hg12, bx1, bx2, hbw, -⟩ := box_two w2 (.bool bu) (.slice Au lu cu) (.bool bs) (.slice As ls cs)
  have hb3 : Below w2.heap.size w2 W3 := by rw [hg1]; exact hbw
  have HB3 := Lib.hid (HB2.out.trans (hb3.mono HB2.out.size))
  have HU3 := Lib.hid (HU2.out.below hb3)
  have HS3 := Lib.hid (HS2.out.below hb3)
  rw [hW, hg2, hg1]
  clear hW hg1 hg2 hbw hb3 HB2 HU2 HS2 hg12
  refine (law18_whole true 9 W3 (by rw [W64_eq]; omega)).mono ?_
  rintro e w4 ⟨v4, rfl, h4, hb4⟩
  have HI4 : Hid (IntV w4 v4 (-9)) := Lib.hid (by
    have e : rawOf (-9) = (true, [9]) := raw_small (by decide) (by rw [W64_eq]; decide)
    have h : RawV w4 v4 (rawOf (-9)) := by rw [e]; exact h4
    exact h)
  have HB4 := Lib.hid (HB3.out.trans (hb4.mono HB3.out.size))
  have HU4 := Lib.hid (HU3.out.below hb4)
  have HS4 := Lib.hid (HS3.out.below hb4)
  have by1 := bx1.below hb4 bx1.lt
  have by2 := bx2.below hb4 bx2.lt
  clear h4 hb4 HB3 HU3 HS3 bx1 bx2
  go_wp2_with fail
  refine (root_Of v4 (-9) 3 w4 HI4.out (Nat.le_trans (lc_limb (by rw [W64_eq]; decide)) (by omega)) (by omega) (by omega) (fun _ => rfl)).mono ?_
  rintro e w5 ⟨u5, rfl, hu5, hb5⟩
  rw [root9] at hu5
  have HB5 := Lib.hid (HB4.out.trans (hb5.mono HB4.out.size))
  have HU5 := Lib.hid (HU4.out.below hb5)
  have HS5 := Lib.hid (HS4.out.below hb5)
  have bx1 := by1.below hb5 by1.lt
  have bx2 := by2.below hb5 by2.lt
  have HA5 := Lib.hid hu5.rawV
  obtain ⟨ba, Aa, la, ca, rfl, -⟩ := hu5.open
  clear hb5 HI4 HB4 HU4 HS4 by1 by2 hu5
  go_wp2_with fail
  obtain ⟨W6, g3, hW, hg3, bx3, hbw, -⟩ := box_new w5 (.bool ba) (.slice Aa la ca)
  have hb6 : Below w5.heap.size w5 W6 := by rw [hg3]; exact hbw
  have HB6 := Lib.hid (HB5.out.trans (hb6.mono HB5.out.size))
  have HU6 := Lib.hid (HU5.out.below hb6)
  have HS6 := Lib.hid (HS5.out.below hb6)
  have HA6 := Lib.hid (HA5.out.below hb6)
  have by1 := bx1.below hb6 bx1.lt
  have by2 := bx2.below hb6 bx2.lt
  rw [hW, hg3]
  clear hW hg3 hbw hb6 HB5 HU5 HS5 HA5 bx1 bx2
  refine (law18_whole true 64 W6 (by rw [W64_eq]; omega)).mono ?_
  rintro e w7 ⟨v7, rfl, h7, hb7⟩
  have HI7 : Hid (IntV w7 v7 (-64)) := Lib.hid (by
    have e : rawOf (-64) = (true, [64]) := raw_small (by decide) (by rw [W64_eq]; decide)
    have h : RawV w7 v7 (rawOf (-64)) := by rw [e]; exact h7
    exact h)
  have HB7 := Lib.hid (HB6.out.trans (hb7.mono HB6.out.size))
  have HU7 := Lib.hid (HU6.out.below hb7)
  have HS7 := Lib.hid (HS6.out.below hb7)
  have HA7 := Lib.hid (HA6.out.below hb7)
  have bx1 := by1.below hb7 by1.lt
  have bx2 := by2.below hb7 by2.lt
  have bz3 := bx3.below hb7 bx3.lt
  clear h7 hb7 HB6 HU6 HS6 HA6 by1 by2 bx3
  go_wp2_with fail
  refine (root_Perfect v7 (-64) w7 HI7.out (Nat.le_trans (lc_limb (by rw [W64_eq]; decide)) (by omega))).mono ?_
  rintro e w8 ⟨u8, y8, k8, rfl, hp8, hu8, hb8⟩
  obtain ⟨rfl, rfl⟩ := perf64 hp8
  have HB8 := Lib.hid (HB7.out.trans (hb8.mono HB7.out.size))
  have HU8 := Lib.hid (HU7.out.below hb8)
  have HS8 := Lib.hid (HS7.out.below hb8)
  have HA8 := Lib.hid (HA7.out.below hb8)
  have by1 := bx1.below hb8 bx1.lt
  have by2 := bx2.below hb8 bx2.lt
  have by3 := bz3.below hb8 bz3.lt
  have HP8 := Lib.hid hu8.rawV
  obtain ⟨bp, Ap, lp, cp, rfl, -⟩ := hu8.open
  clear hb8 HI7 HB7 HU7 HS7 HA7 bx1 bx2 bz3 hu8 hp8
  go_upto_region 4 with (fail)
  obtain ⟨W9, g4, hW, hg4, by4, hbw, -⟩ := box_new w8 (.bool bp) (.slice Ap lp cp)
  have hb9 : Below w8.heap.size w8 W9 := by rw [hg4]; exact hbw
  have HB9 := Lib.hid (HB8.out.trans (hb9.mono HB8.out.size))
  have HU9 := Lib.hid (HU8.out.below hb9)
  have HS9 := Lib.hid (HS8.out.below hb9)
  have HA9 := Lib.hid (HA8.out.below hb9)
  have HP9 := Lib.hid (HP8.out.below hb9)
  have bx1 := by1.below hb9 by1.lt
  have bx2 := by2.below hb9 by2.lt
  have bx3 := by3.below hb9 by3.lt
  rw [hW, hg4]
  clear hW hg4 hbw hb9 HB8 HU8 HS8 HA8 HP8 by1 by2 by3
  have r10 := later_cell bx1.cell0
  have r11 := later_cell bx1.cell1
  have r20 := later_cell bx2.cell0
  have r21 := later_cell bx2.cell1
  have r30 := later_cell bx3.cell0
  have r31 := later_cell bx3.cell1
  have r40 := later_cell by4.cell0
  have r41 := later_cell by4.cell1
  have HB0 := Lib.hid (below_drewN HB9.out 1)
  refine wp_region_stages (fun w' => ∃ δ : Later Nix W9, w' = δ.world) [(false, 0), (false, 1), (true, 2), (true, 3), (false, 4), (false, 5), (false, 6), (true, 7), (true, 8), (false, 9), (false, 10), (false, 11), (false, 12), (true, 13), (true, 14), (false, 15), (false, 16), (false, 17), (false, 18), (true, 19)] 20 [.reads [_, _], .loud _, .loud _, .reads [_, _, _], .loud _, .loud _, .reads [_, _, _, _], .loud _, .loud _, .reads [_, _, _, _], .loud _] [_, _, _, _, _, _, _] (by kernel_rfl) (by kernel_rfl) rfl rfl ?_ ?_
  · exact ⟨⟨_, nix_drawn W9⟩, rfl⟩
  refine wpStages_reads ?_
  repeat (go_big_quiet_step (fail))
  refine wpQuiet_nil ?_
  refine wpStages_loud rfl ?_
  intro K hK
  go_big_op
  refine (law18_whole false 3 (W9.drewN 1) (by rw [W64_eq]; omega)).mono ?_
  rintro e x1 ⟨y1, rfl, hy1, hx1⟩
  have ex1 : Ext Nix W9 x1 := (nix_drawn W9).later (Ext.of_below hx1)
  have HB1 := Lib.hid (HB0.out.trans (hx1.mono HB0.out.size))
  have HY1 := Lib.hid hy1
  have HV1 := Lib.hid (HU9.out.below ex1.below)
  clear hx1 hy1
  refine hK _ _ ⟨⟨x1, ex1⟩, rfl⟩ ?_
  clear hK K
  refine wpStages_loud rfl ?_
  intro K hK
  go_big_op
  refine (law18_is _ _ _ _ 0 0 x1 HV1.out HY1.out (by rw [show rawOf ((3 : Nat) : Int) = (false, [3]) from raw_small (by decide) (by rw [W64_eq]; decide)]; simp)).mono ?_
  rintro e x2 ⟨rfl, hx2⟩
  rw [show (decide ((0 : Int) = 0) && decide (rawOf ((3 : Nat) : Int) = (false, [3]))) = true from by rw [show rawOf ((3 : Nat) : Int) = (false, [3]) from raw_small (by decide) (by rw [W64_eq]; decide)]; simp]
  have ex2 : Ext Nix W9 x2 := ex1.later (Ext.of_below hx2)
  have HB2 := Lib.hid (HB1.out.trans (hx2.mono HB1.out.size))
  refine hK _ _ ⟨⟨x2, ex2⟩, rfl⟩ ?_
  clear hK K hx2 ex1
  refine wpStages_reads ?_
  repeat (go_big_quiet_step (fail))
  refine wpQuiet_nil ?_
  refine wpStages_loud rfl ?_
  intro K hK
  go_big_op
  refine (law18_whole false 1 x2 (by rw [W64_eq]; omega)).mono ?_
  rintro e x3 ⟨y3, rfl, hy3, hx3⟩
  have ex3 : Ext Nix W9 x3 := ex2.later (Ext.of_below hx3)
  have HB3 := Lib.hid (HB2.out.trans (hx3.mono HB2.out.size))
  have HY3 := Lib.hid hy3
  have HV3 := Lib.hid (HS9.out.below ex3.below)
  clear hx3 hy3
  refine hK _ _ ⟨⟨x3, ex3⟩, rfl⟩ ?_
  clear hK K
  refine wpStages_loud rfl ?_
  intro K hK
  go_big_op
  refine (law18_is _ _ _ _ 0 0 x3 HV3.out HY3.out (by rw [show rawOf ((10 - 3 * 3 : Nat) : Int) = (false, [1]) from raw_small (by decide) (by rw [W64_eq]; decide)]; simp)).mono ?_
  rintro e x4 ⟨rfl, hx4⟩
  rw [show (decide ((0 : Int) = 0) && decide (rawOf ((10 - 3 * 3 : Nat) : Int) = (false, [1]))) = true from by rw [show rawOf ((10 - 3 * 3 : Nat) : Int) = (false, [1]) from raw_small (by decide) (by rw [W64_eq]; decide)]; simp]
  have ex4 : Ext Nix W9 x4 := ex3.later (Ext.of_below hx4)
  have HB4 := Lib.hid (HB3.out.trans (hx4.mono HB3.out.size))
  refine hK _ _ ⟨⟨x4, ex4⟩, rfl⟩ ?_
  clear hK K hx4 ex3
  refine wpStages_reads ?_
  repeat (go_big_quiet_step (fail))
  refine wpQuiet_nil ?_
  refine wpStages_loud rfl ?_
  intro K hK
  go_big_op
  refine (law18_whole true 3 x4 (by rw [W64_eq]; omega)).mono ?_
  rintro e x5 ⟨y5, rfl, hy5, hx5⟩
  have ex5 : Ext Nix W9 x5 := ex4.later (Ext.of_below hx5)
  have HB5 := Lib.hid (HB4.out.trans (hx5.mono HB4.out.size))
  have HY5 := Lib.hid hy5
  have HV5 := Lib.hid (HA9.out.below ex5.below)
  clear hx5 hy5
  refine hK _ _ ⟨⟨x5, ex5⟩, rfl⟩ ?_
  clear hK K
  refine wpStages_loud rfl ?_
  intro K hK
  go_big_op
  refine (law18_is _ _ _ _ 0 0 x5 HV5.out HY5.out (by rw [show rawOf (-3) = (true, [3]) from raw_small (by decide) (by rw [W64_eq]; decide)]; simp)).mono ?_
  rintro e x6 ⟨rfl, hx6⟩
  rw [show (decide ((0 : Int) = 0) && decide (rawOf (-3) = (true, [3]))) = true from by rw [show rawOf (-3) = (true, [3]) from raw_small (by decide) (by rw [W64_eq]; decide)]; simp]
  have ex6 : Ext Nix W9 x6 := ex5.later (Ext.of_below hx6)
  have HB6 := Lib.hid (HB5.out.trans (hx6.mono HB5.out.size))
  refine hK _ _ ⟨⟨x6, ex6⟩, rfl⟩ ?_
  clear hK K hx6 ex5
  refine wpStages_reads ?_
  repeat (go_big_quiet_step (fail))
  refine wpQuiet_nil ?_
  refine wpStages_loud rfl ?_
  intro K hK
  go_big_op
  refine (law18_whole true 4 x6 (by rw [W64_eq]; omega)).mono ?_
  rintro e x7 ⟨y7, rfl, hy7, hx7⟩
  have ex7 : Ext Nix W9 x7 := ex6.later (Ext.of_below hx7)
  have HB7 := Lib.hid (HB6.out.trans (hx7.mono HB6.out.size))
  have HY7 := Lib.hid hy7
  have HV7 := Lib.hid (HP9.out.below ex7.below)
  clear hx7 hy7
  refine hK _ _ ⟨⟨x7, ex7⟩, rfl⟩ ?_
  clear hK K
  refine wpStages_nil ?_
  go_wp2_with fail
  refine (law18_is _ _ _ _ 0 0 x7 HV7.out HY7.out (by rw [show rawOf (-4) = (true, [4]) from raw_small (by decide) (by rw [W64_eq]; decide)]; simp)).mono ?_
  rintro e x8 ⟨rfl, hx8⟩
  rw [show (decide ((0 : Int) = 0) && decide (rawOf (-4) = (true, [4]))) = true from by rw [show rawOf (-4) = (true, [4]) from raw_small (by decide) (by rw [W64_eq]; decide)]; simp]
  go_wp2_with fail
  go_ret
  exact ⟨rfl, HB7.out.trans (hx8.mono HB7.out.size)⟩
end Go.Proofs.Ytmnfokapdipcdaa
