import Derived.Test.YtmnfokapdipcdaaRoot4
/- The package root: Perfect. -/
namespace Go.Proofs.Ytmnfokapdipcdaa
open Go.RowKit Go.Deep
/-- What Perfect tells of a number. -/
def PerfOf (z y : Int) (k : Nat) : Prop := (z.natAbs < 2 ∧ y = z ∧ k = 1) ∨ (2 ≤ z.natAbs ∧ ∃ x, Perf (decide (z < 0)) z.natAbs x k ∧ y = signed (decide (z < 0)) x)
set_option maxHeartbeats 1000000 in
set_option maxRecDepth 100000 in
theorem root_Perfect (v : Value) (z : Int) (w : World) (h : IntV w v z) (hl : lc z.natAbs ≤ 4096) :
    Calls Try.prog 39 #[v] w fun e w' => ∃ u y, ∃ k : Nat, e = .returned (.tuple #[u, .int .i64 (k : Int), .int .i64 0]) ∧ PerfOf z y k ∧ RawAt w' w.heap.size u (rawOf y) ∧ Below w.heap.size w w' := by
  obtain ⟨s1, A1, l1, c1, rfl, HU⟩ := h.open
  have HL := Lib.hid hl
  have HS := Lib.hid HU.out.parts.1
  have HNB := Lib.hid (show nbits z.natAbs ≤ 262144 from by have h := Nat.le_trans (nbits_le_lc z.natAbs) (Nat.mul_le_mul_left 64 hl); omega)
  clear h hl
  go_enter Try.func39, Try.ntmps39
  go_wp2_with fail
  obtain ⟨W0, g, r, hW, hg, hr, hgr, bx, br, hbw, hsz⟩ := box_two w (.bool s1) (.slice A1 l1 c1) (.bool false) (.slice none 0 0)
  have HW := Lib.hid (show w.heap.size = g from hg)
  have HBWS := Lib.hid (show Below w.heap.size w W0 from by rw [hg]; exact hbw)
  have HGR := Lib.hid hgr
  have HSZ := Lib.hid hsz
  have HU0 := Lib.hid (HU.out.below HBWS.out)
  rw [hW, hr, hg]
  clear hW hr hg hgr hsz hbw
  refine (right_int _ z W0 HU0.out HL.out).mono ?_
  rintro e w1 ⟨rfl, hb1⟩
  have bx1 := bx.below hb1 bx.lt
  have br1 := br.below hb1 br.lt
  have hbw1 := Lib.hid (HBWS.out.trans (hb1.mono HBWS.out.size))
  have HU1 := Lib.hid (HU0.out.below hb1)
  have a0 := bx1.cell0
  have a1 := bx1.cell1
  clear bx br hb1 HU0 HBWS
  go_wp2_with fail
  refine (root_value _ z w1 HU1.out HL.out).mono ?_
  rintro e w2 ⟨gx, rfl, hgx, hx2, hb2⟩
  have HGX := Lib.hid (show r < gx ∧ g < gx ∧ w.heap.size ≤ gx from ⟨Nat.lt_of_lt_of_le br1.lt hgx, Nat.lt_of_lt_of_le bx1.lt hgx, Nat.le_trans hbw1.out.size hgx⟩)
  have bx2 := bx1.below hb2 bx1.lt
  have br2 := br1.below hb2 br1.lt
  have hbw2 := Lib.hid (hbw1.out.trans (hb2.mono hbw1.out.size))
  have HU2 := Lib.hid (HU1.out.below hb2)
  clear bx1 br1 hbw1 hb2 hgx a0 a1 HU1
  go_wp2_with fail
  refine (int_abs gx gx z z w2 hx2 hx2 (by have := HL.out; unfold lc at this; omega)).mono ?_
  rintro e w3 ⟨rfl, hx3, he3⟩
  have bx3 := bx2.ext he3 (by have := HGX.out; omega)
  have br3 := br2.ext he3 (by have := HGX.out; omega)
  have hbw3 := Lib.hid (((Ext.of_below hbw2.out).hidden he3 HGX.out.2.2).below)
  have HU3 := Lib.hid (HU2.out.ext_int hx2 he3)
  obtain ⟨A, hA⟩ : ∃ A : Nat, z.natAbs = A := ⟨_, rfl⟩
  have HA := Lib.hid hA
  rw [hA] at hx3 HNB HL
  clear bx2 br2 hx2 hbw2 he3 HU2 hA
  go_wp2_with fail
  refine (int_bitlen gx (A : Int) w3 hx3 (by rw [Int.natAbs_natCast]; have := HL.out; unfold lc at this; omega)).mono ?_
  rintro e w4 ⟨rfl, rfl⟩
  rw [Int.natAbs_natCast]
  obtain ⟨b, hb⟩ : ∃ b, nbits A = b := ⟨_, rfl⟩
  have HB := Lib.hid hb
  rw [hb] at HNB ⊢
  clear hb
  by_cases h2 : A < 2
  · have hb1 : (b : Int) < 2 := by
      have : nbits A ≤ 1 := nbits_le.2 (by omega)
      have := HB.out
      omega
    have HA2 := Lib.hid h2
    have a0 := bx3.cell0
    have a1 := bx3.cell1
    clear h2
    go_wp2_with fail
    refine (root_value _ z w3 HU3.out (by rw [HA.out]; exact HL.out)).mono ?_
    rintro e w4 ⟨gv, rfl, hgv, hv4, hb4⟩
    have br4 := br3.below hb4 br3.lt
    have hbw4 := Lib.hid (hbw3.out.trans (hb4.mono hbw3.out.size))
    clear hbw3 hb4 hgv bx3 br3 a0 a1 hx3
    go_wp2_with fail
    refine (root_told gv z w4 hv4 (by rw [HA.out]; have := HL.out; unfold lc at this; omega)).mono ?_
    rintro e w5 ⟨u, rfl, hu5, hb5⟩
    have br5 := br4.below hb5 br4.lt
    have hbw5 := Lib.hid (hbw4.out.trans (hb5.mono hbw4.out.size))
    obtain ⟨bu, Au, lu, cu, rfl, HU5⟩ := (hu5.since hbw4.out.size).open
    clear hbw4 hb5 hv4 br4 hu5
    have a0 := br5.cell0
    have a1 := br5.cell1
    have f0 := br5.free 0
    have f1 := br5.free 1
    have nn := br5.nums
    have HGG := Lib.hid (show w.heap.size ≤ r from by have := HW.out; have := HGR.out; omega)
    go_wp2_with fail
    refine bodyPost_ret (v := .tuple #[.agg #[.bool bu, (.slice Au lu cu)], (.int .i64 1), (.int .i64 0)]) (by
      rw [results_rec_two rfl]
      have hld := run_loadVar_row (P := Try.prog) _ r 36 36 #[.bool bu, (.slice Au lu cu)] (0, 0) _ br5.store Try.underlying36 rfl (by kernel_rfl)
      simp [asAddr, Result.andThen, hld]) rfl ?_
    exact ⟨_, z, 1, rfl, .inl ⟨by rw [HA.out]; exact HA2.out, rfl, rfl⟩, HU5.out.store2 nn _ _, store2_below hbw5.out HGG.out⟩
  · have hb1 : ¬ ((b : Int) < 2) := by
      have h : ¬ nbits A ≤ 1 := fun h => by have := nbits_le.1 h; omega
      have := HB.out
      omega
    have HA2 := Lib.hid (show 2 ≤ A by omega)
    clear h2
    go_wp2_with fail
    refine (int_bitlen gx (A : Int) w3 hx3 (by rw [Int.natAbs_natCast]; have := HL.out; unfold lc at this; omega)).mono ?_
    rintro e w4 ⟨rfl, rfl⟩
    rw [Int.natAbs_natCast, HB.out]
    have hbI : (b : Int) ≤ 262144 := by have := HNB.out; omega
    have hb0 : (0 : Int) ≤ (b : Int) := by omega
    have HST := Lib.hid (PStep.start (neg := s1) HA2.out)
    have HHX := Lib.hid hbw3.out
    clear hbw3
    go_wp2_with fail
    go_loopw [5, 6, 27] (fun t5 t6 t27 wr => ∃ q x n p : Nat, t5 = .pointer (some ⟨q, 0, none⟩) ∧ t6 = .int .i64 (n : Int) ∧ t27 = .int .i64 (p : Int) ∧ p ≤ b + 1 ∧ PStep s1 A p x n ∧ IntAt wr q (x : Int) ∧ r < q ∧ g < q ∧ w.heap.size ≤ q ∧ Box2 wr g (.bool s1) (.slice A1 l1 c1) ∧ Box2 wr r (.bool false) (.slice none 0 0) ∧ Below w.heap.size w wr) (fun _ _ t27 _ => ((b : Int) + 1 - intOf t27).toNat)
    case atStart => exact ⟨gx, A, 1, 0, rfl, rfl, rfl, by omega, HST.out, hx3, HGX.out.1, HGX.out.2.1, HGX.out.2.2, bx3, br3, HHX.out⟩
    case round =>
      clear hx3 bx3 br3
      obtain ⟨q, x, n, p, rfl, rfl, rfl, hp, hst, hx, hq1, hq2, hq3, bx, br, hb⟩ := hrel
      have HP := Lib.hid hp
      have HSP := Lib.hid hst
      have HQ := Lib.hid (And.intro hq1 (And.intro hq2 hq3))
      have HBE := Lib.hid hb
      clear hp hst hq1 hq2 hq3 hb
      rcases Nat.lt_or_ge p (b + 1) with hlt | hge
      · have hltI : (p : Int) < (b : Int) + 1 := by omega
        have hpI : (p : Int) ≤ 262144 := by have := HNB.out; omega
        have hp0 : (0 : Int) ≤ (p : Int) := by omega
        have HLT := Lib.hid hlt
        have a0 := bx.cell0
        clear hlt
        have hbit := and_one_i64 p (by omega)
        go_upto_region 10 with (fail)
        go_cut [40] (fun t wx => wr = wx ∧ ∃ sk : Bool, t = .bool sk ∧ (if sk then p < 2 ∨ ¬ okE s1 p else 2 ≤ p ∧ okE s1 p))
        case first =>
          by_cases h2 : p < 2
          · have h2I : (p : Int) < 2 := by omega
            have HK := Lib.hid h2
            clear h2
            go_wp2_with fail
            go_meet
            exact ⟨rfl, true, rfl, .inl HK.out⟩
          · have h2I : ¬ (p : Int) < 2 := by omega
            have HP2 := Lib.hid (show 2 ≤ p by omega)
            clear h2
            rcases Nat.mod_two_eq_zero_or_one p with hm | hm
            · rw [hm] at hbit
              rcases s1 with _ | _
              · have HOK : Hid (okE false p) := Lib.hid (fun h => by simp at h)
                clear hm
                go_wp2_with fail
                go_meet
                exact ⟨rfl, false, rfl, HP2.out, HOK.out⟩
              · have HK : Hid (¬ okE true p) := Lib.hid (fun h => by have := h rfl; omega)
                clear hm
                go_wp2_with fail
                go_meet
                exact ⟨rfl, true, rfl, .inr HK.out⟩
            · rw [hm] at hbit
              have HOK : Hid (okE s1 p) := Lib.hid (fun _ => hm)
              clear hm
              go_wp2_with fail
              go_meet
              exact ⟨rfl, false, rfl, HP2.out, HOK.out⟩
        case rest =>
          obtain ⟨rfl, sk, rfl, hsk⟩ := hcut
          clear hbit
          rcases sk with _ | _
          · have HOK : Hid (2 ≤ p ∧ okE s1 p) := Lib.hid hsk
            clear hsk
            obtain ⟨wo, hwo⟩ : ∃ wo : World, wo = wr := ⟨_, rfl⟩
            subst hwo
            have hp2 : (2 : Int) ≤ (p : Int) := by have := HOK.out.1; omega
            go_wp2_with fail
            go_loopg [5, 6] x (fun gk t5 t6 wr => ∃ q n : Nat, t5 = .pointer (some ⟨q, 0, none⟩) ∧ t6 = .int .i64 (n : Int) ∧ PStep s1 A p gk n ∧ IntAt wr q (gk : Int) ∧ r < q ∧ g < q ∧ w.heap.size ≤ q ∧ Box2 wr g (.bool s1) (.slice A1 l1 c1) ∧ Box2 wr r (.bool false) (.slice none 0 0) ∧ Below w.heap.size w wr)
            case atStart => exact ⟨q, n, rfl, rfl, HSP.out, hx, HQ.out.1, HQ.out.2.1, HQ.out.2.2, bx, br, HBE.out⟩
            case round =>
              clear hx bx br HSP HQ HBE a0
              obtain ⟨q, n, rfl, rfl, hst, hx, hq1, hq2, hq3, bx, br, hb⟩ := hrel
              have HSP := Lib.hid hst
              have HQ := Lib.hid (And.intro hq1 (And.intro hq2 hq3))
              have HBE := Lib.hid hb
              have HXA := Lib.hid (show lc gk ≤ 4096 from Nat.le_trans (limbs_mono hst.le) HL.out)
              have HXB := Lib.hid (show nbits gk ≤ 262144 from Nat.le_trans (nbits_mono hst.le) (by have := HB.out; have := HNB.out; omega))
              have HNI := Lib.hid (show (n : Int) ≤ 262144 by have := hst.exp_lt; have := HB.out; have := HNB.out; omega)
              clear hst hq1 hq2 hq3 hb
              go_wp2_with fail
              refine (int_bitlen q (gk : Int) wr hx (by rw [Int.natAbs_natCast]; have := HXA.out; unfold lc at this; omega)).mono ?_
              rintro e w4 ⟨rfl, rfl⟩
              rw [Int.natAbs_natCast]
              obtain ⟨c, hc⟩ : ∃ c, nbits gk = c := ⟨_, rfl⟩
              have HC := Lib.hid hc
              rw [hc]
              clear hc
              rcases Nat.lt_or_ge p c with hlt | hge
              · have hI : (p : Int) < (c : Int) := by omega
                have HPC := Lib.hid hlt
                clear hlt
                go_wp2_with fail
                refine (root_floor q p gk wr hx (by have := HOK.out.1; omega) (by omega) HXB.out).mono ?_
                rintro e w5 ⟨gr, rfl, hgr, hr5, hb5⟩
                have hx5 := hx.below hb5
                have bx5 := bx.below hb5 bx.lt
                have br5 := br.below hb5 br.lt
                have hbw5 := Lib.hid (HBE.out.trans (hb5.mono HBE.out.size))
                have HG5 := Lib.hid (show r < gr ∧ g < gr ∧ w.heap.size ≤ gr from ⟨Nat.lt_of_lt_of_le br.lt hgr, Nat.lt_of_lt_of_le bx.lt hgr, Nat.le_trans HBE.out.size hgr⟩)
                have HP1 := Lib.hid (show 1 ≤ p from by have := HOK.out.1; omega)
                have HLR := Lib.hid (show lc (iroot p gk) ≤ 4096 from Nat.le_trans (limbs_mono (iroot_le HP1.out gk)) HXA.out)
                have HLP := Lib.hid (show lc (iroot p gk ^ p) ≤ 4096 from Nat.le_trans (limbs_mono (iroot_pow HP1.out gk)) HXA.out)
                clear hx bx br hb5 hgr HBE
                obtain ⟨R, hR⟩ : ∃ R, iroot p gk = R := ⟨_, rfl⟩
                rw [hR] at hr5 HLR HLP
                have HR := Lib.hid hR
                clear hR
                go_wp2_with fail
                refine (root_power gr p R w5 hr5 (by rw [← Int.natCast_pow, Int.natAbs_natCast]; have := HLP.out; unfold lc at this; omega) (by rw [Int.natAbs_natCast]; have := HLR.out; unfold lc at this; omega) (by omega)).mono ?_
                rintro e w6 ⟨gp, rfl, hgp, hp6, hb6⟩
                have hx6 := hx5.below hb6
                have hr6 := hr5.below hb6
                have bx6 := bx5.below hb6 bx5.lt
                have br6 := br5.below hb6 br5.lt
                have hbw6 := Lib.hid (hbw5.out.trans (hb6.mono hbw5.out.size))
                clear hx5 hr5 bx5 br5 hbw5 hb6 hgp
                go_wp2_with fail
                refine (int_cmp gp q _ _ w6 hp6 hx6 (by rw [← Int.natCast_pow, Int.natAbs_natCast]; have := HLP.out; unfold lc at this; omega) (by rw [Int.natAbs_natCast]; have := HXA.out; unfold lc at this; omega)).mono ?_
                rintro e w7 ⟨rfl, q7, rfl⟩
                have hr7 := hr6.drewN q7
                have hx7 := hx6.drewN q7
                have bx7 := bx6.drewN q7
                have br7 := br6.drewN q7
                have hbw7 := Lib.hid (below_drewN hbw6.out q7)
                generalize w6.drewN q7 = w7 at hr7 hx7 bx7 br7 hbw7 ⊢
                clear hr6 hx6 br6 bx6 hbw6 hp6
                by_cases he : R ^ p = gk
                · have e2 : cmpZ ((R : Int) ^ p) (gk : Int) = 0 := by
                    rw [← Int.natCast_pow, he]; exact cmpZ_eq _
                  rw [e2]
                  have HD := Lib.hid (HSP.out.down HOK.out.1 HOK.out.2 he)
                  have HRL := Lib.hid (show R < gk from by
                    rw [← he]
                    have h1 := Nat.pow_lt_pow_right (a := R) (m := 1) (n := p) HD.out.two HOK.out.1
                    rwa [Nat.pow_one] at h1)
                  have hnp : (n : Int) * (p : Int) ≤ 262144 := by
                    have h1 := HD.out.exp_lt
                    have h3 := HB.out
                    have h4 := HNB.out
                    have h5 : ((n * p : Nat) : Int) ≤ 262144 := by omega
                    simpa using h5
                  have hnp0 : (0 : Int) ≤ (n : Int) * (p : Int) := by
                    have h5 : (0 : Int) ≤ ((n * p : Nat) : Int) := by omega
                    simpa using h5
                  clear he e2
                  go_wp2_with fail
                  go_roundg R
                  case measure => exact HRL.out
                  case rel => exact ⟨gr, n * p, rfl, by rw [Int.natCast_mul], HD.out, hr7, HG5.out.1, HG5.out.2.1, HG5.out.2.2, bx7, br7, hbw7.out⟩
                · have e2 : ¬ cmpZ ((R : Int) ^ p) (gk : Int) = 0 := by
                    rw [← Int.natCast_pow]
                    unfold cmpZ
                    split
                    · omega
                    · split <;> omega
                  obtain ⟨C, hC⟩ : ∃ C, cmpZ ((R : Int) ^ p) (gk : Int) = C := ⟨_, rfl⟩
                  rw [hC] at e2 ⊢
                  have HK := Lib.hid (HSP.out.next HP1.out (.inr (by rw [HR.out]; exact he)))
                  clear he hC
                  go_wp2_with fail
                  exact ⟨⟨q, gk, n, p + 1, rfl, rfl, by go_num, by have := HLT.out; omega, HK.out, hx7, HQ.out.1, HQ.out.2.1, HQ.out.2.2, bx7, br7, hbw7.out⟩, by simp [intOf]; omega⟩
              · have hI : ¬ (p : Int) < (c : Int) := by omega
                have HK := Lib.hid (HSP.out.next (by have := HOK.out.1; omega) (.inl (by have := HC.out; omega)))
                clear hge
                go_wp2_with fail
                exact ⟨⟨q, gk, n, p + 1, rfl, rfl, by go_num, by have := HLT.out; omega, HK.out, hx, HQ.out.1, HQ.out.2.1, HQ.out.2.2, bx, br, HBE.out⟩, by simp [intOf]; omega⟩
          · have HK := Lib.hid (HSP.out.skip hsk)
            clear hsk
            go_wp2_with fail
            exact ⟨⟨q, x, n, p + 1, rfl, rfl, by go_num, by have := HLT.out; omega, HK.out, hx, HQ.out.1, HQ.out.2.1, HQ.out.2.2, bx, br, HBE.out⟩, by simp [intOf]; omega⟩
      · have hltI : ¬ (p : Int) < (b : Int) + 1 := by omega
        have a0 := bx.cell0
        clear hge
        have HPF : Hid (Perf s1 A x n) := Lib.hid (HSP.out.perf (by have := HP.out; have := HB.out; omega))
        have HXA := Lib.hid (show lc x ≤ 4096 from Nat.le_trans (limbs_mono HSP.out.le) HL.out)
        have HNI := Lib.hid (show (n : Int) ≤ 262144 by have := HSP.out.exp_lt; have := HB.out; have := HNB.out; omega)
        go_upto_if 60 with (fail)
        go_cut [] (fun wx => IntAt wx q (signed s1 (x : Nat)) ∧ Box2 wx r (.bool false) (.slice none 0 0) ∧ Below w.heap.size w wx)
        case first =>
          rcases s1 with _ | _
          · go_wp2_with fail
            go_meet
            exact ⟨hx, br, HBE.out⟩
          · go_wp2_with fail
            refine (int_neg q q _ _ _ hx hx (by rw [Int.natAbs_natCast]; have := HXA.out; unfold lc at this; omega)).mono ?_
            rintro e w7 ⟨rfl, hr7, he7⟩
            have br7 := br.ext he7 (by have := HQ.out; omega)
            have hbw7 := ((Ext.of_below HBE.out).hidden he7 HQ.out.2.2).below
            clear he7
            go_wp2_with fail
            go_meet
            exact ⟨hr7, br7, hbw7⟩
        case rest =>
          clear hx br bx a0
          obtain ⟨hx, br, hb5⟩ := hcut
          have HB5 := Lib.hid hb5
          clear hb5
          go_wp2_with fail
          refine (root_told q _ _ hx (by rw [signed_natAbs]; have := HXA.out; unfold lc at this; omega)).mono ?_
          rintro e w8 ⟨u, rfl, hu8, hb8⟩
          have hbw8 := Lib.hid (HB5.out.trans (hb8.mono HB5.out.size))
          have br8 := br.below hb8 br.lt
          obtain ⟨bu, Au, lu, cu, rfl, HU8⟩ := (hu8.since HB5.out.size).open
          clear hb8 hx br hu8
          have a0 := br8.cell0
          have a1 := br8.cell1
          have f0 := br8.free 0
          have f1 := br8.free 1
          have nn := br8.nums
          have HGG := Lib.hid (show w.heap.size ≤ r from by have := HW.out; have := HGR.out; omega)
          go_wp2_with fail
          refine bodyPost_ret (v := .tuple #[.agg #[.bool bu, (.slice Au lu cu)], (.int .i64 (n : Int)), (.int .i64 0)]) (by
            rw [results_rec_two rfl]
            have hld := run_loadVar_row (P := Try.prog) _ r 36 36 #[.bool bu, (.slice Au lu cu)] (0, 0) _ br8.store Try.underlying36 rfl (by kernel_rfl)
            simp [asAddr, Result.andThen, hld]) rfl ?_
          refine ⟨_, _, n, rfl, .inr ⟨by rw [HA.out]; exact HA2.out, x, ?_, rfl⟩, ?_, store2_below hbw8.out HGG.out⟩
          · rw [HA.out, ← HS.out]; exact HPF.out
          · rw [← HS.out]; exact HU8.out.store2 nn _ _
end Go.Proofs.Ytmnfokapdipcdaa
