import Derived.Test.YtmnfokapdipcdaaR18b
import Derived.Test.YtmnfokapdipcdaaBox
import Derived.Test.YtmnfokapdipcdaaRoot5
/- The reference of layer 18: told, Of, Perfect. -/
namespace Go.Proofs.Ytmnfokapdipcdaa
open Go.RowKit Go.Deep
theorem signed_zero_of {b : Bool} {n : Nat} : signed b (signed b n).natAbs = signed b n := by rw [signed_natAbs]
set_option maxHeartbeats 1000000 in
set_option maxRecDepth 100000 in
theorem r18_told (b : Bool) (v : Value) (n : Nat) (w : World) (hv : NatAt w v n) (ln : lc n ≤ 4096) :
    Calls Try.prog 78 #[.bool b, v] w fun e w' => ∃ u, e = .returned u ∧ RawAt w' w.heap.size u (rawOf (signed b n)) ∧ Below w.heap.size w w' := by
  obtain ⟨A, l, c, rfl, el, hc, hlim⟩ := hv
  have HN := Lib.hid (show nbits n ≤ 262144 from by have h := Nat.le_trans (nbits_le_lc n) (Nat.mul_le_mul_left 64 ln); omega)
  have HLC := Lib.hid ln
  have HL := Lib.hid (And.intro el (And.intro hc hlim))
  clear el hc hlim ln
  go_enter Try.func78, Try.ntmps78
  go_wp2_with fail
  obtain ⟨W0, r, hW, hr, br, hbw, hsz⟩ := box_new w (.bool false) (.slice none 0 0)
  have HR := Lib.hid (show w.heap.size ≤ r from by omega)
  have HBW := Lib.hid (show Below w.heap.size w W0 from by rw [hr]; exact hbw)
  have HNL : Hid (NumL W0 (.agg #[.bool b, .slice A l c, .int .i64 0]) (signed b n)) := Lib.hid
    ⟨b, A, l, c, rfl, by rw [signed_natAbs]; exact HL.out.1, HL.out.2.1, by rw [signed_natAbs]; exact (HL.out.2.2.below HBW.out).more HBW.out.size, by rw [signed_natAbs]⟩
  rw [hW, hr]
  clear hW hr hbw hsz
  refine (num_tellL _ (signed b n) W0 HNL.out (by rw [signed_natAbs]; have := HLC.out; unfold lc at this; omega)).mono ?_
  rintro e w1 ⟨b1, A1, k1, c1, rfl, hsg, hb1⟩
  rw [signed_natAbs] at hsg ⊢
  obtain ⟨hs1, hs2⟩ := hsg HN.out
  rw [decide_eq_true HN.out]
  have HS1 := Lib.hid hs1
  have HS2 := Lib.hid (hs2.mono HBW.out.size)
  have br1 := br.below hb1 br.lt
  have HB1 := Lib.hid (HBW.out.trans (hb1.mono HBW.out.size))
  clear hs1 hs2 hsg br hb1
  have hba : Below w1.heap.size w1 (w1.alloc (.cells #[.bool b1, .slice A1 k1 c1] 36)) := (Below.refl _ _).alloc (Nat.le_refl _) _
  have br2 := br1.below hba br1.lt
  have HS3 := Lib.hid (HS2.out.below hba)
  have HB2 := Lib.hid (HB1.out.trans (hba.mono HB1.out.size))
  have a0 := br2.cell0
  have a1 := br2.cell1
  have f0 := br2.free 0
  have f1 := br2.free 1
  have nn := br2.nums
  clear hba
  go_wp2_with fail
  refine bodyPost_ret (results_cell_row rfl _ _ r 36 #[.bool b1, (.slice A1 k1 c1)] (0, 0) _ (by rfl) br2.store Try.underlying36 rfl (by kernel_rfl)) rfl ?_
  refine ⟨_, rfl, ?_, store2_below HB2.out HR.out⟩
  refine RawAt.store2 ?_ nn _ _
  obtain ⟨A2, c2, e2, hc2, hlim2, _⟩ := HS3.out.form
  injection e2 with e21 e22 e23
  subst e21 e22 e23
  have hf := HS3.out.fresh
  obtain rfl := HS1.out
  refine ⟨A1, _, c1, rfl, ?_, hc2, ?_, hf⟩
  · show _ = (limbs (signed b n).natAbs).length
    rw [signed_natAbs]
  · show Lim _ _ A1 (limbs (signed b n).natAbs)
    rw [signed_natAbs]
    exact hlim2
theorem wpStages_idle {P : Program} {ops : Array Oper} {C : World → Prop} {Q : Exit → Act → World → Prop} {tail : List Oper} {o : Oper} {rest : List Stage} {a : Act} {w : World} (hw : Region.wanted o (yielded ops a.tmps) = false) (h : wpStages P ops C Q tail rest (a.put o.dst undef) w) : wpStages P ops C Q tail (.loud o :: rest) a w := by
  unfold wpStages
  rw [if_neg (by rw [hw]; decide)]
  exact h
theorem IntV.nat {w : World} {s : Bool} {A : Option Addr} {l c : Nat} {z : Int} (h : IntV w (.agg #[.bool s, .slice A l c]) z) : NatAt w (.slice A l c) z.natAbs := by
  obtain ⟨_, hl, hc, hlim⟩ := h.parts
  exact ⟨A, l, c, rfl, hl, hc, hlim⟩
theorem ref_right_int (v : Value) (z : Int) (w : World) (h : IntV w v z) (hl : lc z.natAbs ≤ 4096) : Calls Try.prog 76 #[v] w fun e w' => e = .returned (.bool true) ∧ Below w.heap.size w w' := by
  obtain ⟨A, l, c, rfl, hll, hc, hlim⟩ := h
  refine (ref_rightInt _ A l c (limbs z.natAbs) w (Nat.le_refl _) hlim hll).mono ?_
  rintro e w' ⟨rfl, hb⟩
  rw [right_of hl]
  exact ⟨rfl, hb⟩
theorem NatAt.drewN {w : World} {v : Value} {n : Nat} (h : NatAt w v n) (k : Nat) : NatAt (w.drewN k) v n := by
  obtain ⟨A, l, c, rfl, hl, hc, hlim⟩ := h
  exact ⟨A, l, c, rfl, hl, hc, hlim.drewN k⟩
set_option maxHeartbeats 1000000 in
set_option maxRecDepth 100000 in
theorem r18_Of (v : Value) (z : Int) (n : Nat) (w : World) (h : IntV w v z) (hl : lc z.natAbs ≤ 4096) (hn1 : 1 ≤ n) (hn : (n : Int) < 9223372036854775808) (ho : z < 0 → n % 2 = 1) :
    Calls Try.prog 38 #[v, .int .i64 (n : Int)] w fun e w' => ∃ u, e = .returned (.tuple #[u, .int .i64 0]) ∧ RawAt w' w.heap.size u (rawOf (rootZ n z)) ∧ Below w.heap.size w w' := by
  obtain ⟨s1, A1, l1, c1, rfl, HU⟩ := h.open
  have HL := Lib.hid hl
  have HS := Lib.hid HU.out.parts.1
  have HNN := Lib.hid (And.intro hn1 hn)
  have HO := Lib.hid ho
  have hn0 : ¬ (n : Int) < 1 := by omega
  clear h hl ho
  go_enter Try.func38, Try.ntmps38
  go_wp2_with fail
  obtain ⟨W0, g, r, hW, hg, hr, hgr, bx, br, hbw, hsz⟩ := box_two w (.bool s1) (.slice A1 l1 c1) (.bool false) (.slice none 0 0)
  have HW := Lib.hid (show w.heap.size = g from hg)
  have HBWS := Lib.hid (show Below w.heap.size w W0 from by rw [hg]; exact hbw)
  have HGR := Lib.hid hgr
  have HU0 := Lib.hid (HU.out.below HBWS.out)
  rw [hW, hr, hg]
  clear hW hr hg hgr hsz hbw
  refine (ref_right_int _ z W0 HU0.out HL.out).mono ?_
  rintro e w1 ⟨rfl, hb1⟩
  have bx1 := bx.below hb1 bx.lt
  have br1 := br.below hb1 br.lt
  have hbw1 := Lib.hid (HBWS.out.trans (hb1.mono HBWS.out.size))
  have HU1 := Lib.hid (HU0.out.below hb1)
  have a0 := bx1.cell0
  have a1 := bx1.cell1
  clear bx br hb1 HU0 HBWS
  obtain ⟨m, hm⟩ : ∃ m : Int, (n : Int) = m := ⟨_, rfl⟩
  have HM := Lib.hid hm
  have hm1 : ¬ (m < 1) := by omega
  rw [hm]
  clear hn1 hn hn0 hm
  by_cases hz : 0 ≤ z
  · obtain rfl : s1 = false := by rw [HS.out]; exact decide_eq_false (by omega)
    have HZ := Lib.hid hz
    clear hz
    go_wp2_with fail
    rw [← HM.out]
    refine (r18_Root _ z.natAbs n w1 HU1.out.nat HL.out HNN.out.1 HNN.out.2).mono ?_
    rintro e w2 ⟨v2, rfl, hv2, hb2⟩
    have bx2 := bx1.below hb2 bx1.lt
    have br2 := br1.below hb2 br1.lt
    have HB2 := Lib.hid (hbw1.out.trans (hb2.mono hbw1.out.size))
    have HU2 := Lib.hid (HU1.out.below hb2)
    have HV2 := Lib.hid hv2
    clear hbw1 hb2 hv2 a0 a1 bx1 br1 hm1
    have r0 := later_cell bx2.cell0
    have r1 := later_cell bx2.cell1
    have HBX := Lib.hid bx2
    clear bx2
    go_upto_region 4 with (fail)
    refine wp_region_stages (fun w' => ∃ δ : Later Nix w2, w' = δ.world) [(false, 0), (false, 1), (false, 2), (false, 3), (false, 4), (false, 5), (false, 6), (false, 9), (false, 10), (false, 12), (false, 13), (true, 7), (true, 8), (true, 11)] 14 [.reads [_, _, _, _, _, _, _, _, _, _, _], .loud _, .loud _, .loud _] [_, _, _] (by kernel_rfl) (by kernel_rfl) rfl rfl ?_ ?_
    · exact ⟨⟨_, nix_drawn w2⟩, rfl⟩
    refine wpStages_reads ?_
    repeat (go_big_quiet_step (fail))
    refine wpQuiet_nil ?_
    refine wpStages_idle rfl ?_
    refine wpStages_idle rfl ?_
    refine wpStages_idle rfl ?_
    refine wpStages_nil ?_
    clear r0 r1
    have bx3 := HBX.out.drewN 1
    have br3 := br2.drewN 1
    have hv3 := HV2.out.drewN 1
    have HB3 := Lib.hid (below_drewN HB2.out 1)
    have HLS := Lib.hid (show lc (iroot n z.natAbs) ≤ 4096 from Nat.le_trans (limbs_mono (iroot_le HNN.out.1 _)) HL.out)
    have HEZ : Hid (rootZ n z = signed false (iroot n z.natAbs)) := Lib.hid (by unfold rootZ signed; rw [if_pos HZ.out]; rfl)
    generalize w2.drewN 1 = w3 at bx3 br3 hv3 HB3 ⊢
    have b0 := bx3.cell0
    clear br2
    go_wp2_with fail
    clear b0
    refine (r18_told false _ _ _ hv3 (by have := HLS.out; omega)).mono ?_
    rintro e w8 ⟨u, rfl, hu8, hb8⟩
    have br8 := br3.below hb8 br3.lt
    have hbw8 := Lib.hid (HB3.out.trans (hb8.mono HB3.out.size))
    obtain ⟨bu, Au, lu, cu, rfl, HU8⟩ := (hu8.since HB3.out.size).open
    clear hb8 hv3 br3 hu8 bx3
    have a0 := br8.cell0
    have a1 := br8.cell1
    have f0 := br8.free 0
    have f1 := br8.free 1
    have nn := br8.nums
    have HGG := Lib.hid (show w.heap.size ≤ r from by have := HW.out; have := HGR.out; omega)
    go_wp2_with fail
    refine bodyPost_ret (v := .tuple #[.agg #[.bool bu, (.slice Au lu cu)], (.int .i64 0)]) (by
      rw [results_cell_tmp rfl]
      have hld := run_loadVar_row (P := Try.prog) _ r 36 36 #[.bool bu, (.slice Au lu cu)] (0, 0) _ br8.store Try.underlying36 rfl (by kernel_rfl)
      simp [asAddr, Result.andThen, hld]) rfl ?_
    refine ⟨_, rfl, ?_, store2_below hbw8.out HGG.out⟩
    rw [HEZ.out]
    exact HU8.out.store2 nn _ _
  · obtain rfl : s1 = true := by rw [HS.out]; exact decide_eq_true (by omega)
    have HZ := Lib.hid hz
    have HO2 := Lib.hid (HO.out (by omega))
    have ho2 : ¬ (m < 1 ∨ (m % 2 == 0) = true) := by
      rw [← HM.out]
      have := HNN.out
      have := HO2.out
      simp
      omega
    clear hz
    go_wp2_with fail
    rw [← HM.out]
    refine (r18_Root _ z.natAbs n w1 HU1.out.nat HL.out HNN.out.1 HNN.out.2).mono ?_
    rintro e w2 ⟨v2, rfl, hv2, hb2⟩
    have bx2 := bx1.below hb2 bx1.lt
    have br2 := br1.below hb2 br1.lt
    have HB2 := Lib.hid (hbw1.out.trans (hb2.mono hbw1.out.size))
    have HU2 := Lib.hid (HU1.out.below hb2)
    have HV2 := Lib.hid hv2
    clear hbw1 hb2 hv2 a0 a1 bx1 br1 hm1
    have r0 := later_cell bx2.cell0
    have r1 := later_cell bx2.cell1
    have HBX := Lib.hid bx2
    clear bx2
    go_upto_region 4 with (fail)
    refine wp_region_stages (fun w' => ∃ δ : Later Nix w2, w' = δ.world) [(false, 0), (false, 1), (false, 2), (false, 3), (false, 4), (false, 5), (false, 6), (false, 9), (false, 10), (false, 12), (false, 13), (true, 7), (true, 8), (true, 11)] 14 [.reads [_, _, _, _, _, _, _, _, _, _, _], .loud _, .loud _, .loud _] [_, _, _] (by kernel_rfl) (by kernel_rfl) rfl rfl ?_ ?_
    · exact ⟨⟨_, nix_drawn w2⟩, rfl⟩
    refine wpStages_reads ?_
    repeat (go_big_quiet_step (fail))
    refine wpQuiet_nil ?_
    refine wpStages_loud rfl ?_
    intro K hK
    go_big_op
    have HA1 := Lib.hid (show 1 ≤ z.natAbs by have := HZ.out; omega)
    obtain ⟨a, ha⟩ : ∃ a, z.natAbs = a := ⟨_, rfl⟩
    have HA := Lib.hid ha
    have HNA : Hid (NatAt (w2.drewN 1) (.slice A1 l1 c1) a) := Lib.hid (by rw [← ha]; exact HU2.out.nat.drewN 1)
    rw [ha] at HV2 HL HA1
    have HLR := Lib.hid (show lc (iroot n a) ≤ 4096 from Nat.le_trans (limbs_mono (iroot_le HNN.out.1 _)) HL.out)
    have HRP := Lib.hid (iroot_pow HNN.out.1 a)
    have HR1 := Lib.hid (iroot_pos HNN.out.1 HA1.out)
    have HRF : Hid (nbits a ≤ n → iroot n a = 1) := Lib.hid (fun h => iroot_few HNN.out.1 HA1.out h)
    have HEZ : Hid (rootZ n z = signed true (if iroot n a ^ n < a then iroot n a + 1 else iroot n a)) := Lib.hid (by unfold rootZ signed; rw [if_neg (show ¬ 0 ≤ z by have := HZ.out; omega), HA.out]; rfl)
    obtain ⟨R, hR⟩ : ∃ R, iroot n a = R := ⟨_, rfl⟩
    rw [hR] at HV2 HLR HRP HR1 HRF HEZ
    clear hR ha
    refine (nat_bits HNA.out (by have := HL.out; omega)).mono ?_
    rintro e w3 ⟨rfl, hb3⟩
    have he3 : Ext Nix w2 w3 := (nix_drawn w2).later (Ext.of_below hb3)
    refine hK _ _ ⟨⟨w3, he3⟩, rfl⟩ ?_
    clear hK K
    refine wpStages_loud rfl ?_
    intro K hK
    go_big_op
    refine hK _ _ ⟨⟨w3, he3⟩, rfl⟩ ?_
    clear hK K
    refine wpStages_loud rfl ?_
    intro K hK
    go_big_op
    obtain ⟨k, hk⟩ : ∃ k, min n (nbits a) = k := ⟨_, rfl⟩
    have hkI : min (n : Int) (nbits a : Nat) = (k : Int) := by omega
    have HK := Lib.hid hk
    rw [hkI]
    have HKB := Lib.hid (show k ≤ 262144 from by have h := Nat.le_trans (nbits_le_lc a) (Nat.mul_le_mul_left 64 HL.out); omega)
    have HV3 := Lib.hid ((HV2.out.drewN 1).below hb3)
    have HA3 := Lib.hid (HNA.out.below hb3)
    have bx3 := (HBX.out.drewN 1).below hb3 (HBX.out.drewN 1).lt
    have br3 := (br2.drewN 1).below hb3 (br2.drewN 1).lt
    have HB3 := Lib.hid ((below_drewN HB2.out 1).trans (hb3.mono (below_drewN HB2.out 1).size))
    clear hk hkI r0 r1
    refine (r18_power v2 _ R a k w3 HV3.out HA3.out (by have := HLR.out; omega) (by have := HL.out; omega) (by have := HKB.out; omega)).mono ?_
    rintro e w4 ⟨v4, p, rfl, hv4, hps, hb4⟩
    have he4 : Ext Nix w2 w4 := he3.later (Ext.of_below hb4)
    refine hK _ _ ⟨⟨w4, he4⟩, rfl⟩ ?_
    clear hK K
    refine wpStages_nil ?_
    have HV4 := Lib.hid (HV3.out.below hb4)
    have HA4 := Lib.hid (HA3.out.below hb4)
    have bx4 := bx3.below hb4 bx3.lt
    have br4 := br3.below hb4 br3.lt
    have HB4 := Lib.hid (HB3.out.trans (hb4.mono HB3.out.size))
    have HPS := Lib.hid hps
    have HPX : Hid ((p < a ∧ R ^ n < a) ∨ (¬ p < a ∧ ¬ R ^ n < a)) := Lib.hid (by
      have hkn : R ^ k = R ^ n := by
        by_cases h : nbits a ≤ n
        · rw [HRF.out h, Nat.one_pow, Nat.one_pow]
        · rw [show k = n from by have := HK.out; omega]
      rcases HPS.out.or with h | h
      · rw [h, hkn]
        by_cases h2 : R ^ n < a
        · exact .inl ⟨h2, h2⟩
        · exact .inr ⟨h2, h2⟩
      · have := HRP.out
        rw [← hkn] at this
        omega)
    clear he3 he4 hb3 hb4 bx3 br3 HV3 HA3 HB3 hps br2 HBX HNA HV2 HB2 HU2
    go_wp2_with fail
    refine (nat_cmp hv4 HA4.out (by have := HPS.out.len; have := HL.out; have := HLR.out; omega) (by have := HL.out; omega)).mono ?_
    rintro e w5 ⟨rfl, hb5⟩
    have HV5 := Lib.hid (HV4.out.below hb5)
    have bx5 := bx4.below hb5 bx4.lt
    have br5 := br4.below hb5 br4.lt
    have HB5 := Lib.hid (HB4.out.trans (hb5.mono HB4.out.size))
    clear hv4 bx4 br4 HB4 HV4 hb5 HA4
    obtain ⟨C, hC⟩ : ∃ C : Int, cmpN p a = C := ⟨_, rfl⟩
    have HC : Hid ((C < 0 ∧ R ^ n < a) ∨ (¬ C < 0 ∧ ¬ R ^ n < a)) := Lib.hid (by
      rcases HPX.out with h | h
      · left
        rw [← hC, cmpN_lt h.1]
        exact ⟨by omega, h.2⟩
      · right
        refine ⟨?_, h.2⟩
        rw [← hC]
        rcases Nat.lt_or_eq_of_le (Nat.le_of_not_lt h.1) with h3 | h3
        · rw [cmpN_gt h3]; omega
        · rw [cmpN_eq h3.symm]; omega)
    rw [hC]
    clear hC
    go_upto_if 44 with (fail)
    go_cut [6] (fun t6 wx => NatAt wx t6 (if R ^ n < a then R + 1 else R) ∧ Box2 wx g (.bool true) (.slice A1 l1 c1) ∧ Box2 wx r (.bool false) (.slice none 0 0) ∧ Below w.heap.size w wx)
    case first =>
      rcases HC.out with h | h
      · have HR := Lib.hid h.2
        have h1 := h.1
        clear h
        go_wp2_with fail
        refine (r18_one _).mono ?_
        rintro e w6 ⟨v6, rfl, hv6, hb6⟩
        have HV6 := Lib.hid (HV5.out.below hb6)
        have bx6 := bx5.below hb6 bx5.lt
        have br6 := br5.below hb6 br5.lt
        have HB6 := Lib.hid (HB5.out.trans (hb6.mono HB5.out.size))
        clear bx5 br5 hb6
        go_wp2_with fail
        refine (nat_add HV6.out hv6 (by have := HLR.out; omega) (by have := lc_limb (x := 1) (by rw [W64_eq]; omega); omega)).mono ?_
        rintro e w7 ⟨v7, rfl, hv7, -, hb7⟩
        have HV7 := Lib.hid hv7
        have bx7 := bx6.below hb7 bx6.lt
        have br7 := br6.below hb7 br6.lt
        have HB7 := Lib.hid (HB6.out.trans (hb7.mono HB6.out.size))
        clear bx6 br6 hb7 hv7 hv6
        go_wp2_with fail
        go_meet
        exact ⟨by rw [if_pos HR.out]; exact HV7.out, bx7, br7, HB7.out⟩
      · have HR := Lib.hid h.2
        have h1 := h.1
        clear h
        go_wp2_with fail
        go_meet
        exact ⟨by rw [if_neg HR.out]; exact HV5.out, bx5, br5, HB5.out⟩
    case rest =>
      clear bx5 br5
      obtain ⟨hv3, bx3, br3, hb3⟩ := hcut
      have HB3 := Lib.hid hb3
      clear hb3
      have HLS : Hid (lc (if R ^ n < a then R + 1 else R) ≤ 4096) := Lib.hid (by
        split
        · rename_i h
          refine Nat.le_trans (lc_mono (show R + 1 ≤ a from ?_)) HL.out
          have h2 := rle_pow_of (n := n) (r := R) HNN.out.1
          omega
        · exact HLR.out)
      have b0 := bx3.cell0
      go_wp2_with fail
      clear b0
      refine (r18_told true _ _ _ hv3 (by have := HLS.out; omega)).mono ?_
      rintro e w8 ⟨u, rfl, hu8, hb8⟩
      have br8 := br3.below hb8 br3.lt
      have hbw8 := Lib.hid (HB3.out.trans (hb8.mono HB3.out.size))
      obtain ⟨bu, Au, lu, cu, rfl, HU8⟩ := (hu8.since HB3.out.size).open
      clear hb8 hv3 br3 hu8 bx3
      have a0 := br8.cell0
      have a1 := br8.cell1
      have f0 := br8.free 0
      have f1 := br8.free 1
      have nn := br8.nums
      have HGG := Lib.hid (show w.heap.size ≤ r from by have := HW.out; have := HGR.out; omega)
      go_wp2_with fail
      refine bodyPost_ret (v := .tuple #[.agg #[.bool bu, (.slice Au lu cu)], (.int .i64 0)]) (by
        rw [results_cell_tmp rfl]
        have hld := run_loadVar_row (P := Try.prog) _ r 36 36 #[.bool bu, (.slice Au lu cu)] (0, 0) _ br8.store Try.underlying36 rfl (by kernel_rfl)
        simp [asAddr, Result.andThen, hld]) rfl ?_
      refine ⟨_, rfl, ?_, store2_below hbw8.out HGG.out⟩
      rw [HEZ.out]
      exact HU8.out.store2 nn _ _
end Go.Proofs.Ytmnfokapdipcdaa
