import Derived.Test.YtmnfokapdipcdaaLaw18e
/- The laws of layer 18 without the reference: RootHolds. -/
namespace Go.Proofs.Ytmnfokapdipcdaa
open Go.RowKit Go.Deep
theorem cmpZ_le {x y : Int} (h : x ≤ y) : cmpZ x y ≤ 0 := by unfold cmpZ; split <;> (try split) <;> omega
set_option maxHeartbeats 4000000 in
set_option maxRecDepth 100000 in
theorem law_RootHolds (b1 : Bool) (A1 : Option Addr) (l1 c1 : Nat) (xs1 : List Nat) (n : Int) (w : World) (h1 : Lim w w.heap.size A1 xs1) (e1 : l1 = xs1.length) (k1 : l1 ≤ c1) :
    Calls Try.prog 15 #[.agg #[.bool b1, .slice A1 l1 c1], .int .i64 n] w fun o w' => o = .returned (.bool true) ∧ Below w.heap.size w w' := by
  have HV1 : Hid (RawV w (.agg #[.bool b1, .slice A1 l1 c1]) (b1, xs1)) := Lib.hid ⟨A1, l1, c1, rfl, e1, k1, h1⟩
  clear h1 e1 k1
  have hrk : ∃ k : Nat, 1 ≤ k ∧ k ≤ 40 ∧ 1 + n % ((40 : Nat) : Int) = (k : Int) := ⟨(1 + n % 40).toNat, by omega, by omega, by omega⟩
  obtain ⟨k, hk1, hk12, hk⟩ := hrk
  go_enter Try.func15, Try.ntmps15
  go_wp2_with fail
  obtain ⟨W1, ga, hW, hg, ba, G_ga, S_W1, hb⟩ := boxH w (.bool b1) (.slice A1 l1 c1)
  rw [hW, hg]
  replace HV1 := Lib.hid (HV1.out.stay hb)
  have B_W1 := Lib.hid (show Since w W1 from hb)
  clear hW hg hb
  have HB := Lib.hid B_W1.out
  have HGA := Lib.hid (show w.heap.size ≤ ga by have := G_ga.out; omega)
  refine (law18_awake W1).mono ?_
  rintro e w2 ⟨rfl, hb⟩
  replace HV1 := Lib.hid (HV1.out.stay hb)
  replace HB := Lib.hid (HB.out.stay hb)
  replace ba := Lib.hid (ba.out.stay hb)
  clear hb B_W1 G_ga S_W1
  have a0 := ba.out.cell0
  have a1 := ba.out.cell1
  go_wp2_with fail
  refine (law18_known _ _ _ HV1.out).mono ?_
  rintro e w3 ⟨u1, z1, rfl, hz1, hl1, hb⟩
  replace HB := Lib.hid (HB.out.stay hb)
  replace ba := Lib.hid (ba.out.stay hb)
  have HLZ1 := Lib.hid hl1
  obtain ⟨s1, B1, m1, d1, rfl, HU1⟩ := hz1.open
  clear hb hz1 hl1 HV1 a0 a1
  have a0 := ba.out.cell0
  have a1 := ba.out.cell1
  have fa := ba.out.free
  go_upto_region 4 with (fail)
  obtain ⟨W5, hW5, ba5, p5⟩ := ba.out.write (.bool s1) (.slice B1 m1 d1)
  rw [hW5]
  replace HB := Lib.hid (HB.out.put p5 HGA.out)
  replace HU1 := Lib.hid (HU1.out.put p5)
  clear hW5 p5 ba fa a0 a1
  go_wp2_with fail
  refine (kit_pick n 40 W5 (by omega) (by omega)).mono ?_
  rintro e w7 ⟨rfl, rfl⟩
  go_upto_region 5 with (fail)
  have hk' : 1 + n % 40 = (k : Int) := hk
  rw [hk']
  have HKE := Lib.hid (And.intro hk1 hk12)
  have hkI : (k : Int) ≤ 40 := by omega
  have hkI1 : 1 ≤ (k : Int) := by omega
  clear hk hk' hk1 hk12
  have fa := ba5.out.free
  have a0 := ba5.out.cell0
  have a1 := ba5.out.cell1
  rcases Nat.mod_two_eq_zero_or_one k with he | he
  · have hev : ((k : Int) % 2 == 0) = true := by rw [beq_iff_eq]; omega
    have HE := Lib.hid he
    clear he
    go_upto_region 7 with (fail)
    obtain ⟨W8, hW8, ba8, p8⟩ := ba5.out.write0 (.bool false)
    rw [hW8]
    replace HB := Lib.hid (HB.out.put p8 HGA.out)
    replace HU1 := Lib.hid (HU1.out.put p8)
    replace HU1 := Lib.hid HU1.out.abs
    clear hW8 p8 ba5 fa a0 a1
    have HO1 := Lib.hid (fun (h : ((z1.natAbs : Nat) : Int) < 0) => (show k % 2 = 1 by omega))
    have HLA := Lib.hid (show lc ((z1.natAbs : Nat) : Int).natAbs ≤ 12 by rw [Int.natAbs_natCast]; exact HLZ1.out)
    obtain ⟨ZA, hZA⟩ : ∃ Z : Int, ((z1.natAbs : Nat) : Int) = Z := ⟨_, rfl⟩
    rw [hZA] at HU1 HO1 HLA
    clear hZA
    have HLR := Lib.hid (rootZ_len HKE.out.1 (show k ≤ 64 by have := HKE.out.2; omega) HLA.out)
    have HRP := Lib.hid (rootZ_pow HKE.out.1 HO1.out)
    have a0 := ba8.out.cell0
    have a1 := ba8.out.cell1
    go_wp2_with fail
    refine (root_Of _ ZA k _ HU1.out (by have := HLA.out; omega) HKE.out.1 (by have := HKE.out.2; omega) HO1.out).mono ?_
    rintro e w11 ⟨ux, rfl, hx, hb⟩
    obtain ⟨bx, Ax, lx, cx, rfl, HX⟩ := hx.open
    clear hx a0 a1
    replace HU1 := Lib.hid (HU1.out.stay hb)
    replace HB := Lib.hid (HB.out.stay hb)
    replace ba8 := Lib.hid (ba8.out.stay hb)
    clear hb
    replace HX := Lib.hid HX.out.int
    obtain ⟨R, hR⟩ : ∃ R, rootZ k ZA = R := ⟨_, rfl⟩
    rw [hR] at HX HLR HRP
    clear hR
    go_upto_region 8 with (fail)
    obtain ⟨W12, gx, hW, hg, bxx, G_gx, S_W12, hb⟩ := boxH w11 (.bool bx) (.slice Ax lx cx)
    rw [hW, hg]
    have L_ba8_gx := Lib.hid (Nat.lt_of_lt_of_eq ba8.out.lt hg)
    replace HU1 := Lib.hid (HU1.out.stay hb)
    replace HB := Lib.hid (HB.out.stay hb)
    replace HX := Lib.hid (HX.out.stay hb)
    replace ba8 := Lib.hid (ba8.out.stay hb)
    have B_W12 := Lib.hid (show Since w11 W12 from hb)
    clear hW hg hb
    clear G_gx S_W12 B_W12
    have HG12 := Lib.hid (show ga ≠ gx from Nat.ne_of_lt L_ba8_gx.out)
    clear L_ba8_gx
    go_cut [7, 8] (fun t7 t8 wx => ∃ (gN : Nat) (bF : Bool) (AF : Option Addr) (lF cF : Nat), t7 = .pointer (some ⟨gN, 0, none⟩) ∧ t8 = .int .i64 0 ∧ Hid (Box2 wx gN (.bool bF) (.slice AF lF cF)) ∧ Hid (IntV wx (.agg #[.bool bF, .slice AF lF cF]) (R + 1)) ∧ Hid (IntV wx (.agg #[.bool bx, .slice Ax lx cx]) R) ∧ Hid (IntV wx (.agg #[.bool false, .slice B1 m1 d1]) ZA) ∧ Hid (Since w wx) ∧ Hid (Box2 wx gx (.bool bx) (.slice Ax lx cx)) ∧ Hid (Box2 wx ga (.bool false) (.slice B1 m1 d1)) ∧ Hid (ga ≠ gN))
    case first =>
      have r0 := later_cell bxx.out.cell0
      have r1 := later_cell bxx.out.cell1
      refine wp_region_forks (fun w' => ∃ δ : Later Nix W12, w' = δ.world) (.read 0 (.both 1 (.both 2 (.read 3 (.read 4 (.read 5 (.loud 6 (.loud 7 .done))))) 6 (.loud 2 (.read 3 (.read 4 (.read 5 (.loud 7 .done)))))) 6 (.loud 1 (.loud 2 (.read 3 (.read 4 (.read 5 (.loud 7 .done)))))))) 8 (.read _ (.both _ (.both _ (.read _ (.read _ (.read _ (.loud _ (.loud _ .done))))) _ (.loud _ (.read _ (.read _ (.read _ (.loud _ .done)))))) _ (.loud _ (.loud _ (.read _ (.read _ (.read _ (.loud _ .done)))))))) [_] (by kernel_rfl) (by kernel_rfl) rfl rfl ?_ ?_
      · exact ⟨⟨_, nix_drawn W12⟩, rfl⟩
      repeat (refine wpTree_read ?_; go_big_quiet_step (fail); refine wpQuiet_nil ?_)
      have ex : Ext Nix W12 (W12.drewN 1) := nix_drawn W12
      have L_bxx := Lib.hid bxx.out.lt
      have L_ba8 := Lib.hid ba8.out.lt
      have H0_W12 := Lib.hid HB.out.size
      have hb : Below W12.heap.size W12 (W12.drewN 1) := below_drewN (Below.refl _ _) 1
      replace HB := Lib.hid (HB.out.stay hb)
      replace HX := Lib.hid (HX.out.stay hb)
      replace HU1 := Lib.hid (HU1.out.stay hb)
      replace bxx := Lib.hid (bxx.out.stay hb)
      replace ba8 := Lib.hid (ba8.out.stay hb)
      clear hb
      refine wpTree_both rfl rfl ?_ ?_
      · intro K hK
        go_big_op
        refine (law18_whole false 1 _ (by rw [W64_eq]; omega)).mono ?_
        rintro e wG ⟨uG, rfl, hG, hb⟩
        replace ex : Ext Nix W12 wG := ex.later (Ext.of_below hb)
        replace HB := Lib.hid (HB.out.stay hb)
        replace HX := Lib.hid (HX.out.stay hb)
        replace HU1 := Lib.hid (HU1.out.stay hb)
        replace bxx := Lib.hid (bxx.out.stay hb)
        replace ba8 := Lib.hid (ba8.out.stay hb)
        clear hb
        rw [← raw_one] at hG
        have HO := Lib.hid hG.int
        clear hG
        refine hK _ _ ⟨⟨_, ex⟩, rfl⟩ ?_
        clear hK K
        refine wpTree_both rfl rfl ?_ ?_
        · intro K hK
          go_big_op
          refine (limb_Add _ _ R 1 _ HX.out HO.out (by have := HLR.out.2.2.1; omega) (Nat.le_trans (lc_limb (by rw [W64_eq]; decide)) (by omega))).mono ?_
          rintro e wF ⟨uF, rfl, hF, hb⟩
          replace ex : Ext Nix W12 wF := ex.later (Ext.of_below hb)
          replace HB := Lib.hid (HB.out.stay hb)
          replace HX := Lib.hid (HX.out.stay hb)
          replace HU1 := Lib.hid (HU1.out.stay hb)
          replace bxx := Lib.hid (bxx.out.stay hb)
          replace ba8 := Lib.hid (ba8.out.stay hb)
          clear hb HO
          rw [longR_ok (by have := HLR.out.2.2.2; omega)] at hF
          obtain ⟨bF, AF, lF, cF, rfl, HF⟩ := hF.open
          replace HF := Lib.hid HF.out.int
          clear hF
          rw [longE_ok (by have := HLR.out.2.2.2; omega)]
          refine hK _ _ ⟨⟨_, ex⟩, rfl⟩ ?_
          clear hK K
          repeat (refine wpTree_read ?_; go_big_quiet_step (fail); refine wpQuiet_nil ?_)
          refine wpTree_loud rfl ?_
          intro K hK
          go_big_op
          obtain ⟨WA, gN, hW, hg, bN, G_gN, S_WA, hb⟩ := boxH wF (.bool false) (.slice none 0 0)
          first
          | rw [hW, hg]
          | (have hg' : (W12).heap.size = gN := hg
             rw [hW, hg'])
          have HG_gN := Lib.hid (show (W12).heap.size ≤ gN by have h1 := ex.size; have h2 := G_gN.out; omega)
          replace ex : Ext Nix W12 WA := ex.later (Ext.of_below hb)
          replace HB := Lib.hid (HB.out.stay hb)
          replace HX := Lib.hid (HX.out.stay hb)
          replace HU1 := Lib.hid (HU1.out.stay hb)
          replace HF := Lib.hid (HF.out.stay hb)
          replace bxx := Lib.hid (bxx.out.stay hb)
          replace ba8 := Lib.hid (ba8.out.stay hb)
          clear hW hg hb G_gN S_WA
          refine hK _ _ ⟨⟨_, ex⟩, rfl⟩ ?_
          clear hK K
          repeat (refine wpTree_read ?_; go_big_quiet_step (fail); refine wpQuiet_nil ?_)
          refine wpTree_loud rfl ?_
          intro K hK
          have d0 := bN.out.cell0
          have d1 := bN.out.cell1
          have fr := bN.out.free
          go_big_op
          clear d0 d1 fr
          obtain ⟨WS, hW, bz', p⟩ := bN.out.write (.bool bF) (.slice AF lF cF)
          rw [hW]
          replace ex : Ext Nix W12 WS := ex.hidden p.ext HG_gN.out
          replace bN := bz'
          replace HX := Lib.hid (HX.out.put p)
          replace HU1 := Lib.hid (HU1.out.put p)
          replace HF := Lib.hid (HF.out.put p)
          replace bxx := Lib.hid (bxx.out.put p (Nat.ne_of_lt (Nat.lt_of_lt_of_le L_bxx.out HG_gN.out)))
          replace ba8 := Lib.hid (ba8.out.put p (Nat.ne_of_lt (Nat.lt_of_lt_of_le L_ba8.out HG_gN.out)))
          replace HB := Lib.hid (HB.out.put p (Nat.le_trans H0_W12.out HG_gN.out))
          clear hW p
          refine hK _ _ ⟨⟨_, ex⟩, rfl⟩ ?_
          clear hK K
          refine wpTree_done ?_
          go_wp2_with fail
          go_meet
          exact ⟨gN, bF, AF, lF, cF, rfl, rfl, bN, HF, HX, HU1, HB, bxx, ba8, Lib.hid (Nat.ne_of_lt (Nat.lt_of_lt_of_le L_ba8.out HG_gN.out))⟩
        · intro K hK
          go_big_op
          obtain ⟨WA, gN, hW, hg, bN, G_gN, S_WA, hb⟩ := boxH wG (.bool false) (.slice none 0 0)
          first
          | rw [hW, hg]
          | (have hg' : (W12).heap.size = gN := hg
             rw [hW, hg'])
          have HG_gN := Lib.hid (show (W12).heap.size ≤ gN by have h1 := ex.size; have h2 := G_gN.out; omega)
          replace ex : Ext Nix W12 WA := ex.later (Ext.of_below hb)
          replace HB := Lib.hid (HB.out.stay hb)
          replace HX := Lib.hid (HX.out.stay hb)
          replace HU1 := Lib.hid (HU1.out.stay hb)
          replace HO := Lib.hid (HO.out.stay hb)
          replace bxx := Lib.hid (bxx.out.stay hb)
          replace ba8 := Lib.hid (ba8.out.stay hb)
          clear hW hg hb G_gN S_WA
          refine hK _ _ ⟨⟨_, ex⟩, rfl⟩ ?_
          clear hK K
          refine wpTree_loud rfl ?_
          intro K hK
          go_big_op
          refine (limb_Add _ _ R 1 _ HX.out HO.out (by have := HLR.out.2.2.1; omega) (Nat.le_trans (lc_limb (by rw [W64_eq]; decide)) (by omega))).mono ?_
          rintro e wF ⟨uF, rfl, hF, hb⟩
          replace ex : Ext Nix W12 wF := ex.later (Ext.of_below hb)
          replace HB := Lib.hid (HB.out.stay hb)
          replace HX := Lib.hid (HX.out.stay hb)
          replace HU1 := Lib.hid (HU1.out.stay hb)
          replace bxx := Lib.hid (bxx.out.stay hb)
          replace ba8 := Lib.hid (ba8.out.stay hb)
          replace bN := Lib.hid (bN.out.stay hb)
          clear hb HO
          rw [longR_ok (by have := HLR.out.2.2.2; omega)] at hF
          obtain ⟨bF, AF, lF, cF, rfl, HF⟩ := hF.open
          replace HF := Lib.hid HF.out.int
          clear hF
          rw [longE_ok (by have := HLR.out.2.2.2; omega)]
          refine hK _ _ ⟨⟨_, ex⟩, rfl⟩ ?_
          clear hK K
          repeat (refine wpTree_read ?_; go_big_quiet_step (fail); refine wpQuiet_nil ?_)
          refine wpTree_loud rfl ?_
          intro K hK
          have d0 := bN.out.cell0
          have d1 := bN.out.cell1
          have fr := bN.out.free
          go_big_op
          clear d0 d1 fr
          obtain ⟨WS, hW, bz', p⟩ := bN.out.write (.bool bF) (.slice AF lF cF)
          rw [hW]
          replace ex : Ext Nix W12 WS := ex.hidden p.ext HG_gN.out
          replace bN := bz'
          replace HX := Lib.hid (HX.out.put p)
          replace HU1 := Lib.hid (HU1.out.put p)
          replace HF := Lib.hid (HF.out.put p)
          replace bxx := Lib.hid (bxx.out.put p (Nat.ne_of_lt (Nat.lt_of_lt_of_le L_bxx.out HG_gN.out)))
          replace ba8 := Lib.hid (ba8.out.put p (Nat.ne_of_lt (Nat.lt_of_lt_of_le L_ba8.out HG_gN.out)))
          replace HB := Lib.hid (HB.out.put p (Nat.le_trans H0_W12.out HG_gN.out))
          clear hW p
          refine hK _ _ ⟨⟨_, ex⟩, rfl⟩ ?_
          clear hK K
          refine wpTree_done ?_
          go_wp2_with fail
          go_meet
          exact ⟨gN, bF, AF, lF, cF, rfl, rfl, bN, HF, HX, HU1, HB, bxx, ba8, Lib.hid (Nat.ne_of_lt (Nat.lt_of_lt_of_le L_ba8.out HG_gN.out))⟩
      · intro K hK
        go_big_op
        obtain ⟨WA, gN, hW, hg, bN, G_gN, S_WA, hb⟩ := boxH (W12.drewN 1) (.bool false) (.slice none 0 0)
        first
        | rw [hW, hg]
        | (have hg' : (W12).heap.size = gN := hg
           rw [hW, hg'])
        have HG_gN := Lib.hid (show (W12).heap.size ≤ gN by have h1 := ex.size; have h2 := G_gN.out; omega)
        replace ex : Ext Nix W12 WA := ex.later (Ext.of_below hb)
        replace HB := Lib.hid (HB.out.stay hb)
        replace HX := Lib.hid (HX.out.stay hb)
        replace HU1 := Lib.hid (HU1.out.stay hb)
        replace bxx := Lib.hid (bxx.out.stay hb)
        replace ba8 := Lib.hid (ba8.out.stay hb)
        clear hW hg hb G_gN S_WA
        refine hK _ _ ⟨⟨_, ex⟩, rfl⟩ ?_
        clear hK K
        refine wpTree_loud rfl ?_
        intro K hK
        go_big_op
        refine (law18_whole false 1 _ (by rw [W64_eq]; omega)).mono ?_
        rintro e wG ⟨uG, rfl, hG, hb⟩
        replace ex : Ext Nix W12 wG := ex.later (Ext.of_below hb)
        replace HB := Lib.hid (HB.out.stay hb)
        replace HX := Lib.hid (HX.out.stay hb)
        replace HU1 := Lib.hid (HU1.out.stay hb)
        replace bxx := Lib.hid (bxx.out.stay hb)
        replace ba8 := Lib.hid (ba8.out.stay hb)
        replace bN := Lib.hid (bN.out.stay hb)
        clear hb
        rw [← raw_one] at hG
        have HO := Lib.hid hG.int
        clear hG
        refine hK _ _ ⟨⟨_, ex⟩, rfl⟩ ?_
        clear hK K
        refine wpTree_loud rfl ?_
        intro K hK
        go_big_op
        refine (limb_Add _ _ R 1 _ HX.out HO.out (by have := HLR.out.2.2.1; omega) (Nat.le_trans (lc_limb (by rw [W64_eq]; decide)) (by omega))).mono ?_
        rintro e wF ⟨uF, rfl, hF, hb⟩
        replace ex : Ext Nix W12 wF := ex.later (Ext.of_below hb)
        replace HB := Lib.hid (HB.out.stay hb)
        replace HX := Lib.hid (HX.out.stay hb)
        replace HU1 := Lib.hid (HU1.out.stay hb)
        replace bxx := Lib.hid (bxx.out.stay hb)
        replace ba8 := Lib.hid (ba8.out.stay hb)
        replace bN := Lib.hid (bN.out.stay hb)
        clear hb HO
        rw [longR_ok (by have := HLR.out.2.2.2; omega)] at hF
        obtain ⟨bF, AF, lF, cF, rfl, HF⟩ := hF.open
        replace HF := Lib.hid HF.out.int
        clear hF
        rw [longE_ok (by have := HLR.out.2.2.2; omega)]
        refine hK _ _ ⟨⟨_, ex⟩, rfl⟩ ?_
        clear hK K
        repeat (refine wpTree_read ?_; go_big_quiet_step (fail); refine wpQuiet_nil ?_)
        refine wpTree_loud rfl ?_
        intro K hK
        have d0 := bN.out.cell0
        have d1 := bN.out.cell1
        have fr := bN.out.free
        go_big_op
        clear d0 d1 fr
        obtain ⟨WS, hW, bz', p⟩ := bN.out.write (.bool bF) (.slice AF lF cF)
        rw [hW]
        replace ex : Ext Nix W12 WS := ex.hidden p.ext HG_gN.out
        replace bN := bz'
        replace HX := Lib.hid (HX.out.put p)
        replace HU1 := Lib.hid (HU1.out.put p)
        replace HF := Lib.hid (HF.out.put p)
        replace bxx := Lib.hid (bxx.out.put p (Nat.ne_of_lt (Nat.lt_of_lt_of_le L_bxx.out HG_gN.out)))
        replace ba8 := Lib.hid (ba8.out.put p (Nat.ne_of_lt (Nat.lt_of_lt_of_le L_ba8.out HG_gN.out)))
        replace HB := Lib.hid (HB.out.put p (Nat.le_trans H0_W12.out HG_gN.out))
        clear hW p
        refine hK _ _ ⟨⟨_, ex⟩, rfl⟩ ?_
        clear hK K
        refine wpTree_done ?_
        go_wp2_with fail
        go_meet
        exact ⟨gN, bF, AF, lF, cF, rfl, rfl, bN, HF, HX, HU1, HB, bxx, ba8, Lib.hid (Nat.ne_of_lt (Nat.lt_of_lt_of_le L_ba8.out HG_gN.out))⟩
    case rest =>
      clear HX HU1 HB bxx ba8
      obtain ⟨gN, bF, AF, lF, cF, rfl, rfl, bN, HF, HX, HU1, HB, bxx, ba8, -⟩ := hcut
      have a0 := bxx.out.cell0
      have a1 := bxx.out.cell1
      go_wp2_with fail
      refine (times_Power _ R k _ HX.out (by have := HLR.out.2.2.1; omega) HLR.out.1 (by have := HKE.out.2; omega)).mono ?_
      rintro e w13 ⟨up, rfl, hp, hb⟩
      obtain ⟨bp, Ap, lp, cp, rfl, HPP⟩ := hp.open
      clear hp a0 a1 bxx HX
      replace HU1 := Lib.hid (HU1.out.stay hb)
      replace HB := Lib.hid (HB.out.stay hb)
      replace HF := Lib.hid (HF.out.stay hb)
      replace ba8 := Lib.hid (ba8.out.stay hb)
      replace bN := Lib.hid (bN.out.stay hb)
      clear hb
      replace HPP := Lib.hid HPP.out.int
      go_upto_region 10 with (fail)
      obtain ⟨W14, gp, hW, hg, bpp, G_gp, S_W14, hb⟩ := boxH w13 (.bool bp) (.slice Ap lp cp)
      rw [hW, hg]
      replace HU1 := Lib.hid (HU1.out.stay hb)
      replace HB := Lib.hid (HB.out.stay hb)
      replace HF := Lib.hid (HF.out.stay hb)
      replace HPP := Lib.hid (HPP.out.stay hb)
      replace ba8 := Lib.hid (ba8.out.stay hb)
      replace bN := Lib.hid (bN.out.stay hb)
      have B_W14 := Lib.hid (show Since w13 W14 from hb)
      clear hW hg hb
      clear G_gp S_W14 B_W14
      have a0 := bN.out.cell0
      have a1 := bN.out.cell1
      go_wp2_with fail
      refine (times_Power _ (R + 1) k _ HF.out (by have := HLR.out.2.2.2; omega) HLR.out.2.1 (by have := HKE.out.2; omega)).mono ?_
      rintro e w15 ⟨uq, rfl, hq, hb⟩
      obtain ⟨bq, Aq, lq, cq, rfl, HQQ⟩ := hq.open
      clear hq a0 a1 bN HF
      replace HU1 := Lib.hid (HU1.out.stay hb)
      replace HB := Lib.hid (HB.out.stay hb)
      replace HPP := Lib.hid (HPP.out.stay hb)
      replace ba8 := Lib.hid (ba8.out.stay hb)
      replace bpp := Lib.hid (bpp.out.stay hb)
      clear hb
      replace HQQ := Lib.hid HQQ.out.int
      go_upto_region 13 with (fail)
      obtain ⟨W16, gq, hW, hg, bqq, G_gq, S_W16, hb⟩ := boxH w15 (.bool bq) (.slice Aq lq cq)
      rw [hW, hg]
      replace HU1 := Lib.hid (HU1.out.stay hb)
      replace HB := Lib.hid (HB.out.stay hb)
      replace HPP := Lib.hid (HPP.out.stay hb)
      replace HQQ := Lib.hid (HQQ.out.stay hb)
      replace ba8 := Lib.hid (ba8.out.stay hb)
      replace bpp := Lib.hid (bpp.out.stay hb)
      have B_W16 := Lib.hid (show Since w15 W16 from hb)
      clear hW hg hb
      clear G_gq S_W16 B_W16
      have a0 := bpp.out.cell0
      have a1 := bpp.out.cell1
      have o0 := ba8.out.cell0
      have o1 := ba8.out.cell1
      go_wp2_with fail
      refine (limb_Cmp _ _ (R ^ k) ZA _ HPP.out HU1.out (by have := HLR.out.1; omega) (by have := HLA.out; omega)).mono ?_
      rintro e w17 ⟨rfl, hb⟩
      clear a0 a1 o0 o1 HPP bpp
      replace HU1 := Lib.hid (HU1.out.stay hb)
      replace HB := Lib.hid (HB.out.stay hb)
      replace HQQ := Lib.hid (HQQ.out.stay hb)
      replace ba8 := Lib.hid (ba8.out.stay hb)
      replace bqq := Lib.hid (bqq.out.stay hb)
      clear hb
      obtain ⟨cc, hcc⟩ : ∃ cc, cmpZ (R ^ k) ZA = cc := ⟨_, rfl⟩
      have HCC := Lib.hid (show cc ≤ 0 by rw [← hcc]; exact cmpZ_le HRP.out.1)
      rw [hcc]
      clear hcc
      have a0 := bqq.out.cell0
      have a1 := bqq.out.cell1
      have o0 := ba8.out.cell0
      have o1 := ba8.out.cell1
      go_wp2_with fail
      refine (limb_Cmp _ _ ((R + 1) ^ k) ZA _ HQQ.out HU1.out (by have := HLR.out.2.1; omega) (by have := HLA.out; omega)).mono ?_
      rintro e w18 ⟨rfl, hb⟩
      rw [cmpZ_gt HRP.out.2]
      clear a0 a1 o0 o1 HQQ bqq
      replace HU1 := Lib.hid (HU1.out.stay hb)
      replace HB := Lib.hid (HB.out.stay hb)
      replace ba8 := Lib.hid (ba8.out.stay hb)
      clear hb
      have hcc0 : ¬ 0 < cc := by have := HCC.out; omega
      have o0 := ba8.out.cell0
      have o1 := ba8.out.cell1
      have fo := (ba8).out.free
      go_upto_region 18 with (fail)
      obtain ⟨W19, hW19, ba9, p19⟩ := (ba8).out.write0 (.bool false)
      rw [hW19]
      replace HB := Lib.hid (HB.out.put p19 HGA.out)
      replace HU1 := Lib.hid (HU1.out.put p19)
      replace HU1 := Lib.hid HU1.out.abs
      clear hW19 p19 ba8 fo o0 o1 hcc0 HCC
      have HLN := Lib.hid (show lc (ZA).natAbs ≤ 12 from HLA.out)
      obtain ⟨N, hN⟩ : ∃ N, (ZA).natAbs = N := ⟨_, rfl⟩
      rw [hN] at HU1 HLN
      clear hN
      have a0 := ba9.out.cell0
      have a1 := ba9.out.cell1
      go_wp2_with fail
      refine (root_Square _ N W19 HU1.out (by have := HLN.out; omega)).mono ?_
      rintro e w20 ⟨us, ut, rfl, hs, ht, hb⟩
      replace HU1 := Lib.hid (HU1.out.stay hb)
      replace HB := Lib.hid (HB.out.stay hb)
      replace ba9 := Lib.hid (ba9.out.stay hb)
      obtain ⟨bs, As, ls, cs, rfl, HS⟩ := hs.open
      obtain ⟨bt, At, lt, ct, rfl, HT⟩ := ht.open
      replace HS := Lib.hid HS.out.int
      replace HT := Lib.hid HT.out.int
      clear hs ht hb a0 a1
      have HSQ := Lib.hid (isqrt_spec N)
      have HLS := Lib.hid (show lc (isqrt N) ≤ 12 from Nat.le_trans (lc_mono (isqrt_self N)) HLN.out)
      obtain ⟨Q, hQ⟩ : ∃ Q, isqrt N = Q := ⟨_, rfl⟩
      rw [hQ] at HS HT HSQ HLS
      clear hQ
      have HLT := Lib.hid (show lc (N - Q * Q) ≤ 12 from Nat.le_trans (lc_mono (Nat.sub_le _ _)) HLN.out)
      obtain ⟨T, hT⟩ : ∃ T : Nat, N - Q * Q = T := ⟨_, rfl⟩
      rw [hT] at HT HLT
      have HEQ := Lib.hid (show (Q : Int) * (Q : Int) + (T : Int) = (N : Int) ∧ T ≤ Q + Q by
        have h1 := HSQ.out.1
        have h2 := HSQ.out.2
        have h3 : (Q + 1) * (Q + 1) = Q * Q + Q + Q + 1 := by rw [Nat.add_mul, Nat.mul_add]; omega
        constructor
        · rw [← Int.natCast_mul]; omega
        · omega)
      clear hT
      go_upto_region 19 with (fail)
      obtain ⟨W21, gs, gt, hW, hg, hr, bss, btt, G_gs, S_W21, hb⟩ := boxH2 w20 (.bool bs) (.slice As ls cs) (.bool bt) (.slice At lt ct)
      rw [hW, hr, hg]
      replace HU1 := Lib.hid (HU1.out.stay hb)
      replace HB := Lib.hid (HB.out.stay hb)
      replace HS := Lib.hid (HS.out.stay hb)
      replace HT := Lib.hid (HT.out.stay hb)
      replace ba9 := Lib.hid (ba9.out.stay hb)
      have B_W21 := Lib.hid (show Since w20 W21 from hb)
      clear hW hg hr hb
      clear G_gs S_W21 B_W21
      have a0 := bss.out.cell0
      have a1 := bss.out.cell1
      go_wp2_with fail
      refine (times_Square _ (Q : Int) _ HS.out (by rw [Int.natAbs_natCast]; have := HLS.out; omega) (by rw [Int.natAbs_natCast]; have := HLS.out; omega)).mono ?_
      rintro e w22 ⟨ux2, rfl, hx2, hb⟩
      have HL2 := Lib.hid (show lc ((Q : Int) * (Q : Int)).natAbs ≤ 24 by
        rw [← Int.natCast_mul, Int.natAbs_natCast]
        have h1 := lc_mul Q Q
        have := HLS.out
        omega)
      rw [longR_ok (by have := HL2.out; omega)] at hx2
      rw [longE_ok (by have := HL2.out; omega)]
      obtain ⟨bx2, Ax2, lx2, cx2, rfl, HX2⟩ := hx2.open
      replace HX2 := Lib.hid HX2.out.int
      clear hx2 a0 a1
      replace HU1 := Lib.hid (HU1.out.stay hb)
      replace HB := Lib.hid (HB.out.stay hb)
      replace HS := Lib.hid (HS.out.stay hb)
      replace HT := Lib.hid (HT.out.stay hb)
      replace ba9 := Lib.hid (ba9.out.stay hb)
      replace bss := Lib.hid (bss.out.stay hb)
      replace btt := Lib.hid (btt.out.stay hb)
      clear hb
      go_upto_region 20 with (fail)
      obtain ⟨W23, gx2, hW, hg, bxx2, G_gx2, S_W23, hb⟩ := boxH w22 (.bool bx2) (.slice Ax2 lx2 cx2)
      rw [hW, hg]
      replace HU1 := Lib.hid (HU1.out.stay hb)
      replace HB := Lib.hid (HB.out.stay hb)
      replace HS := Lib.hid (HS.out.stay hb)
      replace HT := Lib.hid (HT.out.stay hb)
      replace HX2 := Lib.hid (HX2.out.stay hb)
      replace ba9 := Lib.hid (ba9.out.stay hb)
      replace bss := Lib.hid (bss.out.stay hb)
      replace btt := Lib.hid (btt.out.stay hb)
      have B_W23 := Lib.hid (show Since w22 W23 from hb)
      clear hW hg hb
      clear G_gx2 S_W23 B_W23
      have a0 := bxx2.out.cell0
      have a1 := bxx2.out.cell1
      have o0 := btt.out.cell0
      have o1 := btt.out.cell1
      go_wp2_with fail
      refine (limb_Add _ _ _ _ _ HX2.out HT.out (by have := HL2.out; omega) (by rw [Int.natAbs_natCast]; have := HLT.out; omega)).mono ?_
      rintro e w24 ⟨usum, rfl, hsum, hb⟩
      rw [HEQ.out.1] at hsum ⊢
      rw [longR_ok (by rw [Int.natAbs_natCast]; have := HLN.out; omega)] at hsum
      rw [longE_ok (by rw [Int.natAbs_natCast]; have := HLN.out; omega)]
      obtain ⟨bsu, Asu, lsu, csu, rfl, HSU⟩ := hsum.open
      replace HSU := Lib.hid HSU.out.rawV
      clear hsum a0 a1 o0 o1 HX2 bxx2
      replace HU1 := Lib.hid (HU1.out.stay hb)
      replace HB := Lib.hid (HB.out.stay hb)
      replace HS := Lib.hid (HS.out.stay hb)
      replace HT := Lib.hid (HT.out.stay hb)
      replace ba9 := Lib.hid (ba9.out.stay hb)
      replace bss := Lib.hid (bss.out.stay hb)
      replace btt := Lib.hid (btt.out.stay hb)
      clear hb
      go_upto_region 21 with (fail)
      obtain ⟨W25, gsu, hW, hg, bsuu, G_gsu, S_W25, hb⟩ := boxH w24 (.bool bsu) (.slice Asu lsu csu)
      rw [hW, hg]
      replace HU1 := Lib.hid (HU1.out.stay hb)
      replace HB := Lib.hid (HB.out.stay hb)
      replace HS := Lib.hid (HS.out.stay hb)
      replace HT := Lib.hid (HT.out.stay hb)
      replace HSU := Lib.hid (HSU.out.stay hb)
      replace ba9 := Lib.hid (ba9.out.stay hb)
      replace bss := Lib.hid (bss.out.stay hb)
      replace btt := Lib.hid (btt.out.stay hb)
      have B_W25 := Lib.hid (show Since w24 W25 from hb)
      clear hW hg hb
      clear G_gsu S_W25 B_W25
      have a0 := bss.out.cell0
      have a1 := bss.out.cell1
      go_wp2_with fail
      refine (limb_Add _ _ _ _ _ HS.out HS.out (by rw [Int.natAbs_natCast]; have := HLS.out; omega) (by rw [Int.natAbs_natCast]; have := HLS.out; omega)).mono ?_
      rintro e w26 ⟨utw, rfl, htw, hb⟩
      have HL3 := Lib.hid (show lc ((Q : Int) + (Q : Int)).natAbs ≤ 24 by
        rw [← Int.natCast_add, Int.natAbs_natCast]
        have h1 := lc_add Q Q
        have := HLS.out
        omega)
      rw [longR_ok (by have := HL3.out; omega)] at htw
      rw [longE_ok (by have := HL3.out; omega)]
      obtain ⟨btw, Atw, ltw, ctw, rfl, HTW⟩ := htw.open
      replace HTW := Lib.hid HTW.out.int
      clear htw a0 a1 HS bss
      replace HU1 := Lib.hid (HU1.out.stay hb)
      replace HB := Lib.hid (HB.out.stay hb)
      replace HT := Lib.hid (HT.out.stay hb)
      replace HSU := Lib.hid (HSU.out.stay hb)
      replace ba9 := Lib.hid (ba9.out.stay hb)
      replace btt := Lib.hid (btt.out.stay hb)
      replace bsuu := Lib.hid (bsuu.out.stay hb)
      clear hb
      go_upto_region 22 with (fail)
      obtain ⟨W27, gtw, hW, hg, btww, G_gtw, S_W27, hb⟩ := boxH w26 (.bool btw) (.slice Atw ltw ctw)
      rw [hW, hg]
      replace HU1 := Lib.hid (HU1.out.stay hb)
      replace HB := Lib.hid (HB.out.stay hb)
      replace HT := Lib.hid (HT.out.stay hb)
      replace HSU := Lib.hid (HSU.out.stay hb)
      replace HTW := Lib.hid (HTW.out.stay hb)
      replace ba9 := Lib.hid (ba9.out.stay hb)
      replace btt := Lib.hid (btt.out.stay hb)
      replace bsuu := Lib.hid (bsuu.out.stay hb)
      have B_W27 := Lib.hid (show Since w26 W27 from hb)
      clear hW hg hb
      clear G_gtw S_W27 B_W27
      have a0 := btt.out.cell0
      have a1 := btt.out.cell1
      have o0 := btww.out.cell0
      have o1 := btww.out.cell1
      go_wp2_with fail
      refine (limb_Cmp _ _ _ _ _ HT.out HTW.out (by rw [Int.natAbs_natCast]; have := HLT.out; omega) (by have := HL3.out; omega)).mono ?_
      rintro e w28 ⟨rfl, hb⟩
      obtain rfl : bt = false := by rw [HT.out.parts.1]; exact decide_eq_false (by omega)
      obtain ⟨cc, hcc⟩ : ∃ cc, cmpZ (T : Int) ((Q : Int) + (Q : Int)) = cc := ⟨_, rfl⟩
      have hcc0 : cc ≤ 0 := by rw [← hcc]; exact cmpZ_le (by have := HEQ.out.2; omega)
      rw [hcc]
      clear hcc a0 a1 o0 o1 HT HTW btww
      replace HU1 := Lib.hid (HU1.out.stay hb)
      replace HB := Lib.hid (HB.out.stay hb)
      replace HSU := Lib.hid (HSU.out.stay hb)
      replace ba9 := Lib.hid (ba9.out.stay hb)
      replace btt := Lib.hid (btt.out.stay hb)
      replace bsuu := Lib.hid (bsuu.out.stay hb)
      clear hb
      have a0 := btt.out.cell0
      have a1 := btt.out.cell1
      have o0 := bsuu.out.cell0
      have o1 := bsuu.out.cell1
      have i0 := ba9.out.cell0
      have i1 := ba9.out.cell1
      go_wp2_with fail
      refine (law18_is _ _ _ _ 0 0 _ HSU.out HU1.out.raw (by have := HLN.out; show (limbs ((N : Nat) : Int).natAbs).length ≤ _; rw [Int.natAbs_natCast]; unfold lc at this; omega)).mono ?_
      rintro e w29 ⟨rfl, hb⟩
      rw [show (decide ((0 : Int) = 0) && decide (rawOf (N : Int) = rawOf (N : Int))) = true by simp]
      replace HB := Lib.hid (HB.out.stay hb)
      clear hb
      go_wp2_with fail
      go_ret
      exact ⟨rfl, HB.out⟩
  · have hev : ((k : Int) % 2 == 0) = false := by rw [beq_eq_false_iff_ne]; omega
    have HE := Lib.hid he
    clear he
    go_upto_region 7 with (fail)
    have HO1 := Lib.hid (fun (_ : z1 < 0) => HE.out)
    have HLA := HLZ1
    clear fa a0 a1
    have HLR := Lib.hid (rootZ_len HKE.out.1 (show k ≤ 64 by have := HKE.out.2; omega) HLA.out)
    have HRP := Lib.hid (rootZ_pow HKE.out.1 HO1.out)
    have a0 := ba5.out.cell0
    have a1 := ba5.out.cell1
    go_wp2_with fail
    refine (root_Of _ z1 k _ HU1.out (by have := HLA.out; omega) HKE.out.1 (by have := HKE.out.2; omega) HO1.out).mono ?_
    rintro e w11 ⟨ux, rfl, hx, hb⟩
    obtain ⟨bx, Ax, lx, cx, rfl, HX⟩ := hx.open
    clear hx a0 a1
    replace HU1 := Lib.hid (HU1.out.stay hb)
    replace HB := Lib.hid (HB.out.stay hb)
    replace ba5 := Lib.hid (ba5.out.stay hb)
    clear hb
    replace HX := Lib.hid HX.out.int
    obtain ⟨R, hR⟩ : ∃ R, rootZ k z1 = R := ⟨_, rfl⟩
    rw [hR] at HX HLR HRP
    clear hR
    go_upto_region 8 with (fail)
    obtain ⟨W12, gx, hW, hg, bxx, G_gx, S_W12, hb⟩ := boxH w11 (.bool bx) (.slice Ax lx cx)
    rw [hW, hg]
    have L_ba5_gx := Lib.hid (Nat.lt_of_lt_of_eq ba5.out.lt hg)
    replace HU1 := Lib.hid (HU1.out.stay hb)
    replace HB := Lib.hid (HB.out.stay hb)
    replace HX := Lib.hid (HX.out.stay hb)
    replace ba5 := Lib.hid (ba5.out.stay hb)
    have B_W12 := Lib.hid (show Since w11 W12 from hb)
    clear hW hg hb
    clear G_gx S_W12 B_W12
    have HG12 := Lib.hid (show ga ≠ gx from Nat.ne_of_lt L_ba5_gx.out)
    clear L_ba5_gx
    go_cut [7, 8] (fun t7 t8 wx => ∃ (gN : Nat) (bF : Bool) (AF : Option Addr) (lF cF : Nat), t7 = .pointer (some ⟨gN, 0, none⟩) ∧ t8 = .int .i64 0 ∧ Hid (Box2 wx gN (.bool bF) (.slice AF lF cF)) ∧ Hid (IntV wx (.agg #[.bool bF, .slice AF lF cF]) (R + 1)) ∧ Hid (IntV wx (.agg #[.bool bx, .slice Ax lx cx]) R) ∧ Hid (IntV wx (.agg #[.bool s1, .slice B1 m1 d1]) z1) ∧ Hid (Since w wx) ∧ Hid (Box2 wx gx (.bool bx) (.slice Ax lx cx)) ∧ Hid (Box2 wx ga (.bool s1) (.slice B1 m1 d1)) ∧ Hid (ga ≠ gN))
    case first =>
      have r0 := later_cell bxx.out.cell0
      have r1 := later_cell bxx.out.cell1
      refine wp_region_forks (fun w' => ∃ δ : Later Nix W12, w' = δ.world) (.read 0 (.both 1 (.both 2 (.read 3 (.read 4 (.read 5 (.loud 6 (.loud 7 .done))))) 6 (.loud 2 (.read 3 (.read 4 (.read 5 (.loud 7 .done)))))) 6 (.loud 1 (.loud 2 (.read 3 (.read 4 (.read 5 (.loud 7 .done)))))))) 8 (.read _ (.both _ (.both _ (.read _ (.read _ (.read _ (.loud _ (.loud _ .done))))) _ (.loud _ (.read _ (.read _ (.read _ (.loud _ .done)))))) _ (.loud _ (.loud _ (.read _ (.read _ (.read _ (.loud _ .done)))))))) [_] (by kernel_rfl) (by kernel_rfl) rfl rfl ?_ ?_
      · exact ⟨⟨_, nix_drawn W12⟩, rfl⟩
      repeat (refine wpTree_read ?_; go_big_quiet_step (fail); refine wpQuiet_nil ?_)
      have ex : Ext Nix W12 (W12.drewN 1) := nix_drawn W12
      have L_bxx := Lib.hid bxx.out.lt
      have L_ba5 := Lib.hid ba5.out.lt
      have H0_W12 := Lib.hid HB.out.size
      have hb : Below W12.heap.size W12 (W12.drewN 1) := below_drewN (Below.refl _ _) 1
      replace HB := Lib.hid (HB.out.stay hb)
      replace HX := Lib.hid (HX.out.stay hb)
      replace HU1 := Lib.hid (HU1.out.stay hb)
      replace bxx := Lib.hid (bxx.out.stay hb)
      replace ba5 := Lib.hid (ba5.out.stay hb)
      clear hb
      refine wpTree_both rfl rfl ?_ ?_
      · intro K hK
        go_big_op
        refine (law18_whole false 1 _ (by rw [W64_eq]; omega)).mono ?_
        rintro e wG ⟨uG, rfl, hG, hb⟩
        replace ex : Ext Nix W12 wG := ex.later (Ext.of_below hb)
        replace HB := Lib.hid (HB.out.stay hb)
        replace HX := Lib.hid (HX.out.stay hb)
        replace HU1 := Lib.hid (HU1.out.stay hb)
        replace bxx := Lib.hid (bxx.out.stay hb)
        replace ba5 := Lib.hid (ba5.out.stay hb)
        clear hb
        rw [← raw_one] at hG
        have HO := Lib.hid hG.int
        clear hG
        refine hK _ _ ⟨⟨_, ex⟩, rfl⟩ ?_
        clear hK K
        refine wpTree_both rfl rfl ?_ ?_
        · intro K hK
          go_big_op
          refine (limb_Add _ _ R 1 _ HX.out HO.out (by have := HLR.out.2.2.1; omega) (Nat.le_trans (lc_limb (by rw [W64_eq]; decide)) (by omega))).mono ?_
          rintro e wF ⟨uF, rfl, hF, hb⟩
          replace ex : Ext Nix W12 wF := ex.later (Ext.of_below hb)
          replace HB := Lib.hid (HB.out.stay hb)
          replace HX := Lib.hid (HX.out.stay hb)
          replace HU1 := Lib.hid (HU1.out.stay hb)
          replace bxx := Lib.hid (bxx.out.stay hb)
          replace ba5 := Lib.hid (ba5.out.stay hb)
          clear hb HO
          rw [longR_ok (by have := HLR.out.2.2.2; omega)] at hF
          obtain ⟨bF, AF, lF, cF, rfl, HF⟩ := hF.open
          replace HF := Lib.hid HF.out.int
          clear hF
          rw [longE_ok (by have := HLR.out.2.2.2; omega)]
          refine hK _ _ ⟨⟨_, ex⟩, rfl⟩ ?_
          clear hK K
          repeat (refine wpTree_read ?_; go_big_quiet_step (fail); refine wpQuiet_nil ?_)
          refine wpTree_loud rfl ?_
          intro K hK
          go_big_op
          obtain ⟨WA, gN, hW, hg, bN, G_gN, S_WA, hb⟩ := boxH wF (.bool false) (.slice none 0 0)
          first
          | rw [hW, hg]
          | (have hg' : (W12).heap.size = gN := hg
             rw [hW, hg'])
          have HG_gN := Lib.hid (show (W12).heap.size ≤ gN by have h1 := ex.size; have h2 := G_gN.out; omega)
          replace ex : Ext Nix W12 WA := ex.later (Ext.of_below hb)
          replace HB := Lib.hid (HB.out.stay hb)
          replace HX := Lib.hid (HX.out.stay hb)
          replace HU1 := Lib.hid (HU1.out.stay hb)
          replace HF := Lib.hid (HF.out.stay hb)
          replace bxx := Lib.hid (bxx.out.stay hb)
          replace ba5 := Lib.hid (ba5.out.stay hb)
          clear hW hg hb G_gN S_WA
          refine hK _ _ ⟨⟨_, ex⟩, rfl⟩ ?_
          clear hK K
          repeat (refine wpTree_read ?_; go_big_quiet_step (fail); refine wpQuiet_nil ?_)
          refine wpTree_loud rfl ?_
          intro K hK
          have d0 := bN.out.cell0
          have d1 := bN.out.cell1
          have fr := bN.out.free
          go_big_op
          clear d0 d1 fr
          obtain ⟨WS, hW, bz', p⟩ := bN.out.write (.bool bF) (.slice AF lF cF)
          rw [hW]
          replace ex : Ext Nix W12 WS := ex.hidden p.ext HG_gN.out
          replace bN := bz'
          replace HX := Lib.hid (HX.out.put p)
          replace HU1 := Lib.hid (HU1.out.put p)
          replace HF := Lib.hid (HF.out.put p)
          replace bxx := Lib.hid (bxx.out.put p (Nat.ne_of_lt (Nat.lt_of_lt_of_le L_bxx.out HG_gN.out)))
          replace ba5 := Lib.hid (ba5.out.put p (Nat.ne_of_lt (Nat.lt_of_lt_of_le L_ba5.out HG_gN.out)))
          replace HB := Lib.hid (HB.out.put p (Nat.le_trans H0_W12.out HG_gN.out))
          clear hW p
          refine hK _ _ ⟨⟨_, ex⟩, rfl⟩ ?_
          clear hK K
          refine wpTree_done ?_
          go_wp2_with fail
          go_meet
          exact ⟨gN, bF, AF, lF, cF, rfl, rfl, bN, HF, HX, HU1, HB, bxx, ba5, Lib.hid (Nat.ne_of_lt (Nat.lt_of_lt_of_le L_ba5.out HG_gN.out))⟩
        · intro K hK
          go_big_op
          obtain ⟨WA, gN, hW, hg, bN, G_gN, S_WA, hb⟩ := boxH wG (.bool false) (.slice none 0 0)
          first
          | rw [hW, hg]
          | (have hg' : (W12).heap.size = gN := hg
             rw [hW, hg'])
          have HG_gN := Lib.hid (show (W12).heap.size ≤ gN by have h1 := ex.size; have h2 := G_gN.out; omega)
          replace ex : Ext Nix W12 WA := ex.later (Ext.of_below hb)
          replace HB := Lib.hid (HB.out.stay hb)
          replace HX := Lib.hid (HX.out.stay hb)
          replace HU1 := Lib.hid (HU1.out.stay hb)
          replace HO := Lib.hid (HO.out.stay hb)
          replace bxx := Lib.hid (bxx.out.stay hb)
          replace ba5 := Lib.hid (ba5.out.stay hb)
          clear hW hg hb G_gN S_WA
          refine hK _ _ ⟨⟨_, ex⟩, rfl⟩ ?_
          clear hK K
          refine wpTree_loud rfl ?_
          intro K hK
          go_big_op
          refine (limb_Add _ _ R 1 _ HX.out HO.out (by have := HLR.out.2.2.1; omega) (Nat.le_trans (lc_limb (by rw [W64_eq]; decide)) (by omega))).mono ?_
          rintro e wF ⟨uF, rfl, hF, hb⟩
          replace ex : Ext Nix W12 wF := ex.later (Ext.of_below hb)
          replace HB := Lib.hid (HB.out.stay hb)
          replace HX := Lib.hid (HX.out.stay hb)
          replace HU1 := Lib.hid (HU1.out.stay hb)
          replace bxx := Lib.hid (bxx.out.stay hb)
          replace ba5 := Lib.hid (ba5.out.stay hb)
          replace bN := Lib.hid (bN.out.stay hb)
          clear hb HO
          rw [longR_ok (by have := HLR.out.2.2.2; omega)] at hF
          obtain ⟨bF, AF, lF, cF, rfl, HF⟩ := hF.open
          replace HF := Lib.hid HF.out.int
          clear hF
          rw [longE_ok (by have := HLR.out.2.2.2; omega)]
          refine hK _ _ ⟨⟨_, ex⟩, rfl⟩ ?_
          clear hK K
          repeat (refine wpTree_read ?_; go_big_quiet_step (fail); refine wpQuiet_nil ?_)
          refine wpTree_loud rfl ?_
          intro K hK
          have d0 := bN.out.cell0
          have d1 := bN.out.cell1
          have fr := bN.out.free
          go_big_op
          clear d0 d1 fr
          obtain ⟨WS, hW, bz', p⟩ := bN.out.write (.bool bF) (.slice AF lF cF)
          rw [hW]
          replace ex : Ext Nix W12 WS := ex.hidden p.ext HG_gN.out
          replace bN := bz'
          replace HX := Lib.hid (HX.out.put p)
          replace HU1 := Lib.hid (HU1.out.put p)
          replace HF := Lib.hid (HF.out.put p)
          replace bxx := Lib.hid (bxx.out.put p (Nat.ne_of_lt (Nat.lt_of_lt_of_le L_bxx.out HG_gN.out)))
          replace ba5 := Lib.hid (ba5.out.put p (Nat.ne_of_lt (Nat.lt_of_lt_of_le L_ba5.out HG_gN.out)))
          replace HB := Lib.hid (HB.out.put p (Nat.le_trans H0_W12.out HG_gN.out))
          clear hW p
          refine hK _ _ ⟨⟨_, ex⟩, rfl⟩ ?_
          clear hK K
          refine wpTree_done ?_
          go_wp2_with fail
          go_meet
          exact ⟨gN, bF, AF, lF, cF, rfl, rfl, bN, HF, HX, HU1, HB, bxx, ba5, Lib.hid (Nat.ne_of_lt (Nat.lt_of_lt_of_le L_ba5.out HG_gN.out))⟩
      · intro K hK
        go_big_op
        obtain ⟨WA, gN, hW, hg, bN, G_gN, S_WA, hb⟩ := boxH (W12.drewN 1) (.bool false) (.slice none 0 0)
        first
        | rw [hW, hg]
        | (have hg' : (W12).heap.size = gN := hg
           rw [hW, hg'])
        have HG_gN := Lib.hid (show (W12).heap.size ≤ gN by have h1 := ex.size; have h2 := G_gN.out; omega)
        replace ex : Ext Nix W12 WA := ex.later (Ext.of_below hb)
        replace HB := Lib.hid (HB.out.stay hb)
        replace HX := Lib.hid (HX.out.stay hb)
        replace HU1 := Lib.hid (HU1.out.stay hb)
        replace bxx := Lib.hid (bxx.out.stay hb)
        replace ba5 := Lib.hid (ba5.out.stay hb)
        clear hW hg hb G_gN S_WA
        refine hK _ _ ⟨⟨_, ex⟩, rfl⟩ ?_
        clear hK K
        refine wpTree_loud rfl ?_
        intro K hK
        go_big_op
        refine (law18_whole false 1 _ (by rw [W64_eq]; omega)).mono ?_
        rintro e wG ⟨uG, rfl, hG, hb⟩
        replace ex : Ext Nix W12 wG := ex.later (Ext.of_below hb)
        replace HB := Lib.hid (HB.out.stay hb)
        replace HX := Lib.hid (HX.out.stay hb)
        replace HU1 := Lib.hid (HU1.out.stay hb)
        replace bxx := Lib.hid (bxx.out.stay hb)
        replace ba5 := Lib.hid (ba5.out.stay hb)
        replace bN := Lib.hid (bN.out.stay hb)
        clear hb
        rw [← raw_one] at hG
        have HO := Lib.hid hG.int
        clear hG
        refine hK _ _ ⟨⟨_, ex⟩, rfl⟩ ?_
        clear hK K
        refine wpTree_loud rfl ?_
        intro K hK
        go_big_op
        refine (limb_Add _ _ R 1 _ HX.out HO.out (by have := HLR.out.2.2.1; omega) (Nat.le_trans (lc_limb (by rw [W64_eq]; decide)) (by omega))).mono ?_
        rintro e wF ⟨uF, rfl, hF, hb⟩
        replace ex : Ext Nix W12 wF := ex.later (Ext.of_below hb)
        replace HB := Lib.hid (HB.out.stay hb)
        replace HX := Lib.hid (HX.out.stay hb)
        replace HU1 := Lib.hid (HU1.out.stay hb)
        replace bxx := Lib.hid (bxx.out.stay hb)
        replace ba5 := Lib.hid (ba5.out.stay hb)
        replace bN := Lib.hid (bN.out.stay hb)
        clear hb HO
        rw [longR_ok (by have := HLR.out.2.2.2; omega)] at hF
        obtain ⟨bF, AF, lF, cF, rfl, HF⟩ := hF.open
        replace HF := Lib.hid HF.out.int
        clear hF
        rw [longE_ok (by have := HLR.out.2.2.2; omega)]
        refine hK _ _ ⟨⟨_, ex⟩, rfl⟩ ?_
        clear hK K
        repeat (refine wpTree_read ?_; go_big_quiet_step (fail); refine wpQuiet_nil ?_)
        refine wpTree_loud rfl ?_
        intro K hK
        have d0 := bN.out.cell0
        have d1 := bN.out.cell1
        have fr := bN.out.free
        go_big_op
        clear d0 d1 fr
        obtain ⟨WS, hW, bz', p⟩ := bN.out.write (.bool bF) (.slice AF lF cF)
        rw [hW]
        replace ex : Ext Nix W12 WS := ex.hidden p.ext HG_gN.out
        replace bN := bz'
        replace HX := Lib.hid (HX.out.put p)
        replace HU1 := Lib.hid (HU1.out.put p)
        replace HF := Lib.hid (HF.out.put p)
        replace bxx := Lib.hid (bxx.out.put p (Nat.ne_of_lt (Nat.lt_of_lt_of_le L_bxx.out HG_gN.out)))
        replace ba5 := Lib.hid (ba5.out.put p (Nat.ne_of_lt (Nat.lt_of_lt_of_le L_ba5.out HG_gN.out)))
        replace HB := Lib.hid (HB.out.put p (Nat.le_trans H0_W12.out HG_gN.out))
        clear hW p
        refine hK _ _ ⟨⟨_, ex⟩, rfl⟩ ?_
        clear hK K
        refine wpTree_done ?_
        go_wp2_with fail
        go_meet
        exact ⟨gN, bF, AF, lF, cF, rfl, rfl, bN, HF, HX, HU1, HB, bxx, ba5, Lib.hid (Nat.ne_of_lt (Nat.lt_of_lt_of_le L_ba5.out HG_gN.out))⟩
    case rest =>
      clear HX HU1 HB bxx ba5
      obtain ⟨gN, bF, AF, lF, cF, rfl, rfl, bN, HF, HX, HU1, HB, bxx, ba5, -⟩ := hcut
      have a0 := bxx.out.cell0
      have a1 := bxx.out.cell1
      go_wp2_with fail
      refine (times_Power _ R k _ HX.out (by have := HLR.out.2.2.1; omega) HLR.out.1 (by have := HKE.out.2; omega)).mono ?_
      rintro e w13 ⟨up, rfl, hp, hb⟩
      obtain ⟨bp, Ap, lp, cp, rfl, HPP⟩ := hp.open
      clear hp a0 a1 bxx HX
      replace HU1 := Lib.hid (HU1.out.stay hb)
      replace HB := Lib.hid (HB.out.stay hb)
      replace HF := Lib.hid (HF.out.stay hb)
      replace ba5 := Lib.hid (ba5.out.stay hb)
      replace bN := Lib.hid (bN.out.stay hb)
      clear hb
      replace HPP := Lib.hid HPP.out.int
      go_upto_region 10 with (fail)
      obtain ⟨W14, gp, hW, hg, bpp, G_gp, S_W14, hb⟩ := boxH w13 (.bool bp) (.slice Ap lp cp)
      rw [hW, hg]
      replace HU1 := Lib.hid (HU1.out.stay hb)
      replace HB := Lib.hid (HB.out.stay hb)
      replace HF := Lib.hid (HF.out.stay hb)
      replace HPP := Lib.hid (HPP.out.stay hb)
      replace ba5 := Lib.hid (ba5.out.stay hb)
      replace bN := Lib.hid (bN.out.stay hb)
      have B_W14 := Lib.hid (show Since w13 W14 from hb)
      clear hW hg hb
      clear G_gp S_W14 B_W14
      have a0 := bN.out.cell0
      have a1 := bN.out.cell1
      go_wp2_with fail
      refine (times_Power _ (R + 1) k _ HF.out (by have := HLR.out.2.2.2; omega) HLR.out.2.1 (by have := HKE.out.2; omega)).mono ?_
      rintro e w15 ⟨uq, rfl, hq, hb⟩
      obtain ⟨bq, Aq, lq, cq, rfl, HQQ⟩ := hq.open
      clear hq a0 a1 bN HF
      replace HU1 := Lib.hid (HU1.out.stay hb)
      replace HB := Lib.hid (HB.out.stay hb)
      replace HPP := Lib.hid (HPP.out.stay hb)
      replace ba5 := Lib.hid (ba5.out.stay hb)
      replace bpp := Lib.hid (bpp.out.stay hb)
      clear hb
      replace HQQ := Lib.hid HQQ.out.int
      go_upto_region 13 with (fail)
      obtain ⟨W16, gq, hW, hg, bqq, G_gq, S_W16, hb⟩ := boxH w15 (.bool bq) (.slice Aq lq cq)
      rw [hW, hg]
      replace HU1 := Lib.hid (HU1.out.stay hb)
      replace HB := Lib.hid (HB.out.stay hb)
      replace HPP := Lib.hid (HPP.out.stay hb)
      replace HQQ := Lib.hid (HQQ.out.stay hb)
      replace ba5 := Lib.hid (ba5.out.stay hb)
      replace bpp := Lib.hid (bpp.out.stay hb)
      have B_W16 := Lib.hid (show Since w15 W16 from hb)
      clear hW hg hb
      clear G_gq S_W16 B_W16
      have a0 := bpp.out.cell0
      have a1 := bpp.out.cell1
      have o0 := ba5.out.cell0
      have o1 := ba5.out.cell1
      go_wp2_with fail
      refine (limb_Cmp _ _ (R ^ k) z1 _ HPP.out HU1.out (by have := HLR.out.1; omega) (by have := HLA.out; omega)).mono ?_
      rintro e w17 ⟨rfl, hb⟩
      clear a0 a1 o0 o1 HPP bpp
      replace HU1 := Lib.hid (HU1.out.stay hb)
      replace HB := Lib.hid (HB.out.stay hb)
      replace HQQ := Lib.hid (HQQ.out.stay hb)
      replace ba5 := Lib.hid (ba5.out.stay hb)
      replace bqq := Lib.hid (bqq.out.stay hb)
      clear hb
      obtain ⟨cc, hcc⟩ : ∃ cc, cmpZ (R ^ k) z1 = cc := ⟨_, rfl⟩
      have HCC := Lib.hid (show cc ≤ 0 by rw [← hcc]; exact cmpZ_le HRP.out.1)
      rw [hcc]
      clear hcc
      have a0 := bqq.out.cell0
      have a1 := bqq.out.cell1
      have o0 := ba5.out.cell0
      have o1 := ba5.out.cell1
      go_wp2_with fail
      refine (limb_Cmp _ _ ((R + 1) ^ k) z1 _ HQQ.out HU1.out (by have := HLR.out.2.1; omega) (by have := HLA.out; omega)).mono ?_
      rintro e w18 ⟨rfl, hb⟩
      rw [cmpZ_gt HRP.out.2]
      clear a0 a1 o0 o1 HQQ bqq
      replace HU1 := Lib.hid (HU1.out.stay hb)
      replace HB := Lib.hid (HB.out.stay hb)
      replace ba5 := Lib.hid (ba5.out.stay hb)
      clear hb
      have hcc0 : ¬ 0 < cc := by have := HCC.out; omega
      have o0 := ba5.out.cell0
      have o1 := ba5.out.cell1
      have fo := (ba5).out.free
      go_upto_region 18 with (fail)
      obtain ⟨W19, hW19, ba9, p19⟩ := (ba5).out.write0 (.bool false)
      rw [hW19]
      replace HB := Lib.hid (HB.out.put p19 HGA.out)
      replace HU1 := Lib.hid (HU1.out.put p19)
      replace HU1 := Lib.hid HU1.out.abs
      clear hW19 p19 ba5 fo o0 o1 hcc0 HCC
      have HLN := Lib.hid (show lc (z1).natAbs ≤ 12 from HLA.out)
      obtain ⟨N, hN⟩ : ∃ N, (z1).natAbs = N := ⟨_, rfl⟩
      rw [hN] at HU1 HLN
      clear hN
      have a0 := ba9.out.cell0
      have a1 := ba9.out.cell1
      go_wp2_with fail
      refine (root_Square _ N W19 HU1.out (by have := HLN.out; omega)).mono ?_
      rintro e w20 ⟨us, ut, rfl, hs, ht, hb⟩
      replace HU1 := Lib.hid (HU1.out.stay hb)
      replace HB := Lib.hid (HB.out.stay hb)
      replace ba9 := Lib.hid (ba9.out.stay hb)
      obtain ⟨bs, As, ls, cs, rfl, HS⟩ := hs.open
      obtain ⟨bt, At, lt, ct, rfl, HT⟩ := ht.open
      replace HS := Lib.hid HS.out.int
      replace HT := Lib.hid HT.out.int
      clear hs ht hb a0 a1
      have HSQ := Lib.hid (isqrt_spec N)
      have HLS := Lib.hid (show lc (isqrt N) ≤ 12 from Nat.le_trans (lc_mono (isqrt_self N)) HLN.out)
      obtain ⟨Q, hQ⟩ : ∃ Q, isqrt N = Q := ⟨_, rfl⟩
      rw [hQ] at HS HT HSQ HLS
      clear hQ
      have HLT := Lib.hid (show lc (N - Q * Q) ≤ 12 from Nat.le_trans (lc_mono (Nat.sub_le _ _)) HLN.out)
      obtain ⟨T, hT⟩ : ∃ T : Nat, N - Q * Q = T := ⟨_, rfl⟩
      rw [hT] at HT HLT
      have HEQ := Lib.hid (show (Q : Int) * (Q : Int) + (T : Int) = (N : Int) ∧ T ≤ Q + Q by
        have h1 := HSQ.out.1
        have h2 := HSQ.out.2
        have h3 : (Q + 1) * (Q + 1) = Q * Q + Q + Q + 1 := by rw [Nat.add_mul, Nat.mul_add]; omega
        constructor
        · rw [← Int.natCast_mul]; omega
        · omega)
      clear hT
      go_upto_region 19 with (fail)
      obtain ⟨W21, gs, gt, hW, hg, hr, bss, btt, G_gs, S_W21, hb⟩ := boxH2 w20 (.bool bs) (.slice As ls cs) (.bool bt) (.slice At lt ct)
      rw [hW, hr, hg]
      replace HU1 := Lib.hid (HU1.out.stay hb)
      replace HB := Lib.hid (HB.out.stay hb)
      replace HS := Lib.hid (HS.out.stay hb)
      replace HT := Lib.hid (HT.out.stay hb)
      replace ba9 := Lib.hid (ba9.out.stay hb)
      have B_W21 := Lib.hid (show Since w20 W21 from hb)
      clear hW hg hr hb
      clear G_gs S_W21 B_W21
      have a0 := bss.out.cell0
      have a1 := bss.out.cell1
      go_wp2_with fail
      refine (times_Square _ (Q : Int) _ HS.out (by rw [Int.natAbs_natCast]; have := HLS.out; omega) (by rw [Int.natAbs_natCast]; have := HLS.out; omega)).mono ?_
      rintro e w22 ⟨ux2, rfl, hx2, hb⟩
      have HL2 := Lib.hid (show lc ((Q : Int) * (Q : Int)).natAbs ≤ 24 by
        rw [← Int.natCast_mul, Int.natAbs_natCast]
        have h1 := lc_mul Q Q
        have := HLS.out
        omega)
      rw [longR_ok (by have := HL2.out; omega)] at hx2
      rw [longE_ok (by have := HL2.out; omega)]
      obtain ⟨bx2, Ax2, lx2, cx2, rfl, HX2⟩ := hx2.open
      replace HX2 := Lib.hid HX2.out.int
      clear hx2 a0 a1
      replace HU1 := Lib.hid (HU1.out.stay hb)
      replace HB := Lib.hid (HB.out.stay hb)
      replace HS := Lib.hid (HS.out.stay hb)
      replace HT := Lib.hid (HT.out.stay hb)
      replace ba9 := Lib.hid (ba9.out.stay hb)
      replace bss := Lib.hid (bss.out.stay hb)
      replace btt := Lib.hid (btt.out.stay hb)
      clear hb
      go_upto_region 20 with (fail)
      obtain ⟨W23, gx2, hW, hg, bxx2, G_gx2, S_W23, hb⟩ := boxH w22 (.bool bx2) (.slice Ax2 lx2 cx2)
      rw [hW, hg]
      replace HU1 := Lib.hid (HU1.out.stay hb)
      replace HB := Lib.hid (HB.out.stay hb)
      replace HS := Lib.hid (HS.out.stay hb)
      replace HT := Lib.hid (HT.out.stay hb)
      replace HX2 := Lib.hid (HX2.out.stay hb)
      replace ba9 := Lib.hid (ba9.out.stay hb)
      replace bss := Lib.hid (bss.out.stay hb)
      replace btt := Lib.hid (btt.out.stay hb)
      have B_W23 := Lib.hid (show Since w22 W23 from hb)
      clear hW hg hb
      clear G_gx2 S_W23 B_W23
      have a0 := bxx2.out.cell0
      have a1 := bxx2.out.cell1
      have o0 := btt.out.cell0
      have o1 := btt.out.cell1
      go_wp2_with fail
      refine (limb_Add _ _ _ _ _ HX2.out HT.out (by have := HL2.out; omega) (by rw [Int.natAbs_natCast]; have := HLT.out; omega)).mono ?_
      rintro e w24 ⟨usum, rfl, hsum, hb⟩
      rw [HEQ.out.1] at hsum ⊢
      rw [longR_ok (by rw [Int.natAbs_natCast]; have := HLN.out; omega)] at hsum
      rw [longE_ok (by rw [Int.natAbs_natCast]; have := HLN.out; omega)]
      obtain ⟨bsu, Asu, lsu, csu, rfl, HSU⟩ := hsum.open
      replace HSU := Lib.hid HSU.out.rawV
      clear hsum a0 a1 o0 o1 HX2 bxx2
      replace HU1 := Lib.hid (HU1.out.stay hb)
      replace HB := Lib.hid (HB.out.stay hb)
      replace HS := Lib.hid (HS.out.stay hb)
      replace HT := Lib.hid (HT.out.stay hb)
      replace ba9 := Lib.hid (ba9.out.stay hb)
      replace bss := Lib.hid (bss.out.stay hb)
      replace btt := Lib.hid (btt.out.stay hb)
      clear hb
      go_upto_region 21 with (fail)
      obtain ⟨W25, gsu, hW, hg, bsuu, G_gsu, S_W25, hb⟩ := boxH w24 (.bool bsu) (.slice Asu lsu csu)
      rw [hW, hg]
      replace HU1 := Lib.hid (HU1.out.stay hb)
      replace HB := Lib.hid (HB.out.stay hb)
      replace HS := Lib.hid (HS.out.stay hb)
      replace HT := Lib.hid (HT.out.stay hb)
      replace HSU := Lib.hid (HSU.out.stay hb)
      replace ba9 := Lib.hid (ba9.out.stay hb)
      replace bss := Lib.hid (bss.out.stay hb)
      replace btt := Lib.hid (btt.out.stay hb)
      have B_W25 := Lib.hid (show Since w24 W25 from hb)
      clear hW hg hb
      clear G_gsu S_W25 B_W25
      have a0 := bss.out.cell0
      have a1 := bss.out.cell1
      go_wp2_with fail
      refine (limb_Add _ _ _ _ _ HS.out HS.out (by rw [Int.natAbs_natCast]; have := HLS.out; omega) (by rw [Int.natAbs_natCast]; have := HLS.out; omega)).mono ?_
      rintro e w26 ⟨utw, rfl, htw, hb⟩
      have HL3 := Lib.hid (show lc ((Q : Int) + (Q : Int)).natAbs ≤ 24 by
        rw [← Int.natCast_add, Int.natAbs_natCast]
        have h1 := lc_add Q Q
        have := HLS.out
        omega)
      rw [longR_ok (by have := HL3.out; omega)] at htw
      rw [longE_ok (by have := HL3.out; omega)]
      obtain ⟨btw, Atw, ltw, ctw, rfl, HTW⟩ := htw.open
      replace HTW := Lib.hid HTW.out.int
      clear htw a0 a1 HS bss
      replace HU1 := Lib.hid (HU1.out.stay hb)
      replace HB := Lib.hid (HB.out.stay hb)
      replace HT := Lib.hid (HT.out.stay hb)
      replace HSU := Lib.hid (HSU.out.stay hb)
      replace ba9 := Lib.hid (ba9.out.stay hb)
      replace btt := Lib.hid (btt.out.stay hb)
      replace bsuu := Lib.hid (bsuu.out.stay hb)
      clear hb
      go_upto_region 22 with (fail)
      obtain ⟨W27, gtw, hW, hg, btww, G_gtw, S_W27, hb⟩ := boxH w26 (.bool btw) (.slice Atw ltw ctw)
      rw [hW, hg]
      replace HU1 := Lib.hid (HU1.out.stay hb)
      replace HB := Lib.hid (HB.out.stay hb)
      replace HT := Lib.hid (HT.out.stay hb)
      replace HSU := Lib.hid (HSU.out.stay hb)
      replace HTW := Lib.hid (HTW.out.stay hb)
      replace ba9 := Lib.hid (ba9.out.stay hb)
      replace btt := Lib.hid (btt.out.stay hb)
      replace bsuu := Lib.hid (bsuu.out.stay hb)
      have B_W27 := Lib.hid (show Since w26 W27 from hb)
      clear hW hg hb
      clear G_gtw S_W27 B_W27
      have a0 := btt.out.cell0
      have a1 := btt.out.cell1
      have o0 := btww.out.cell0
      have o1 := btww.out.cell1
      go_wp2_with fail
      refine (limb_Cmp _ _ _ _ _ HT.out HTW.out (by rw [Int.natAbs_natCast]; have := HLT.out; omega) (by have := HL3.out; omega)).mono ?_
      rintro e w28 ⟨rfl, hb⟩
      obtain rfl : bt = false := by rw [HT.out.parts.1]; exact decide_eq_false (by omega)
      obtain ⟨cc, hcc⟩ : ∃ cc, cmpZ (T : Int) ((Q : Int) + (Q : Int)) = cc := ⟨_, rfl⟩
      have hcc0 : cc ≤ 0 := by rw [← hcc]; exact cmpZ_le (by have := HEQ.out.2; omega)
      rw [hcc]
      clear hcc a0 a1 o0 o1 HT HTW btww
      replace HU1 := Lib.hid (HU1.out.stay hb)
      replace HB := Lib.hid (HB.out.stay hb)
      replace HSU := Lib.hid (HSU.out.stay hb)
      replace ba9 := Lib.hid (ba9.out.stay hb)
      replace btt := Lib.hid (btt.out.stay hb)
      replace bsuu := Lib.hid (bsuu.out.stay hb)
      clear hb
      have a0 := btt.out.cell0
      have a1 := btt.out.cell1
      have o0 := bsuu.out.cell0
      have o1 := bsuu.out.cell1
      have i0 := ba9.out.cell0
      have i1 := ba9.out.cell1
      go_wp2_with fail
      refine (law18_is _ _ _ _ 0 0 _ HSU.out HU1.out.raw (by have := HLN.out; show (limbs ((N : Nat) : Int).natAbs).length ≤ _; rw [Int.natAbs_natCast]; unfold lc at this; omega)).mono ?_
      rintro e w29 ⟨rfl, hb⟩
      rw [show (decide ((0 : Int) = 0) && decide (rawOf (N : Int) = rawOf (N : Int))) = true by simp]
      replace HB := Lib.hid (HB.out.stay hb)
      clear hb
      go_wp2_with fail
      go_ret
      exact ⟨rfl, HB.out⟩
end Go.Proofs.Ytmnfokapdipcdaa
