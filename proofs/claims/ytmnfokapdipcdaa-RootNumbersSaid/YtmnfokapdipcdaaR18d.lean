import Derived.Test.YtmnfokapdipcdaaR18c
import Derived.Test.YtmnfokapdipcdaaRoot6
/- The reference of layer 18: Perfect; what is refused. -/
namespace Go.Proofs.Ytmnfokapdipcdaa
open Go.RowKit Go.Deep
/-- What the reference's Perfect tells: the greatest exponent. -/
def PerfRef (z y : Int) (k : Nat) : Prop := (z.natAbs < 2 ∧ y = z ∧ k = 1) ∨ (2 ≤ z.natAbs ∧ 1 ≤ k ∧ ∃ x, x ^ k = z.natAbs ∧ okE (decide (z < 0)) k ∧ (∀ q, k < q → okE (decide (z < 0)) q → ∀ t, t ^ q ≠ z.natAbs) ∧ y = signed (decide (z < 0)) x)
theorem PerfRef.same {z y y' : Int} {k k' : Nat} (h : PerfRef z y k) (h' : PerfOf z y' k') : y' = y ∧ k' = k := by
  rcases h with ⟨h0, rfl, rfl⟩ | ⟨h0, h1, x, h2, h3, h4, rfl⟩
  · rcases h' with ⟨_, rfl, rfl⟩ | ⟨g0, _⟩
    · exact ⟨rfl, rfl⟩
    · omega
  · rcases h' with ⟨g0, _⟩ | ⟨g0, x', hp, rfl⟩
    · omega
    · obtain ⟨e1, e2⟩ := hp.only h1 h3 h2 h4
      exact ⟨by rw [e2], e1.symm⟩
theorem signed_self (z : Int) : signed (decide (z < 0)) z.natAbs = z := by
  unfold signed
  by_cases h : z < 0
  · rw [decide_eq_true h, if_pos rfl]; omega
  · rw [decide_eq_false h, if_neg (by decide)]; omega
set_option maxHeartbeats 1000000 in
set_option maxRecDepth 100000 in
theorem r18_Perfect (v : Value) (z : Int) (w : World) (h : IntV w v z) (hl : lc z.natAbs ≤ 4096) :
    Calls Try.prog 40 #[v] w fun e w' => ∃ u y, ∃ k : Nat, e = .returned (.tuple #[u, .int .i64 (k : Int), .int .i64 0]) ∧ PerfRef z y k ∧ RawAt w' w.heap.size u (rawOf y) ∧ Below w.heap.size w w' := by
  obtain ⟨s1, A1, l1, c1, rfl, HU⟩ := h.open
  have HL := Lib.hid hl
  have HS := Lib.hid HU.out.parts.1
  obtain ⟨b, hb⟩ : ∃ b, nbits z.natAbs = b := ⟨_, rfl⟩
  have HB := Lib.hid hb
  have HBL := Lib.hid (show b ≤ 262144 from by have h := Nat.le_trans (nbits_le_lc z.natAbs) (Nat.mul_le_mul_left 64 hl); omega)
  clear h hl
  go_enter Try.func40, Try.ntmps40
  go_wp2_with fail
  obtain ⟨W0, g, r, hW, hg, hr, hgr, bx, br, hbw, hsz⟩ := box_two w (.bool s1) (.slice A1 l1 c1) (.bool false) (.slice none 0 0)
  have HGG := Lib.hid (show w.heap.size ≤ r by omega)
  have HBWS := Lib.hid (show Below w.heap.size w W0 from by rw [hg]; exact hbw)
  have HU0 := Lib.hid (HU.out.below HBWS.out)
  rw [hW, hr, hg]
  clear hW hr hg hgr hsz hbw
  refine (ref_right_int _ z W0 HU0.out HL.out).mono ?_
  rintro e w1 ⟨rfl, hb1⟩
  have bx1 := bx.below hb1 bx.lt
  have br1 := br.below hb1 br.lt
  have hbw1 := Lib.hid (HBWS.out.trans (hb1.mono HBWS.out.size))
  have HU1 := Lib.hid (HU0.out.below hb1)
  have a0 := bx1.cell0
  have a1 := bx1.cell1
  clear bx br hb1 HU0 HBWS
  go_wp2_with fail
  refine (nat_bits HU1.out.nat (by have := HL.out; omega)).mono ?_
  rintro e w2 ⟨rfl, hb2⟩
  have bx2 := bx1.below hb2 bx1.lt
  have br2 := br1.below hb2 br1.lt
  have hbw2 := Lib.hid (hbw1.out.trans (hb2.mono hbw1.out.size))
  have HU2 := Lib.hid (HU1.out.below hb2)
  rw [hb]
  have hbI : (b : Int) ≤ 262144 := by have := HBL.out; omega
  have hb0 : (0 : Int) ≤ (b : Int) := by omega
  have HBW2 := Lib.hid hbw2.out
  clear hbw1 bx1 br1 hb2 HU1 a0 a1 hb hbw2
  go_wp2_with fail
  go_loopw [6] (fun t6 wr => ∃ n : Nat, t6 = .int .i64 (n : Int) ∧ n ≤ b ∧ (2 ≤ b → 1 ≤ n) ∧ (2 ≤ z.natAbs → ∀ q, n < q → okE s1 q → ∀ t, t ^ q ≠ z.natAbs) ∧ Box2 wr g (.bool s1) (.slice A1 l1 c1) ∧ Box2 wr r (.bool false) (.slice none 0 0) ∧ Below w2.heap.size w2 wr) (fun t6 _ => (intOf t6).toNat)
  case atStart =>
    refine ⟨b, rfl, Nat.le_refl _, fun h => by omega, ?_, bx2, br2, Below.refl _ _⟩
    intro h2 q hq _ t ht
    have h3 := pow_bits ht h2
    have := HB.out
    omega
  case round =>
    clear bx2 br2
    obtain ⟨n, rfl, hnb, hn1, hno, bx, br, hbe⟩ := hrel
    have HNO := Lib.hid (And.intro hnb (And.intro hn1 hno))
    have HBR := Lib.hid (HBW2.out.trans (hbe.mono HBW2.out.size))
    have HBE := Lib.hid hbe
    have HUr := Lib.hid (HU2.out.below hbe)
    clear hnb hn1 hno hbe
    by_cases hn2 : 2 ≤ n
    · have hnI : (2 : Int) ≤ (n : Int) := by omega
      have hbI2 : (2 : Int) ≤ (b : Int) := by have := HNO.out.1; omega
      have hnB : (n : Int) ≤ 262144 := by have := HNO.out.1; omega
      have HN2 := Lib.hid hn2
      clear hn2
      have hm := Nat.mod_two_eq_zero_or_one n
      have HN := Lib.hid hm
      have a0 := bx.cell0
      have a1 := bx.cell1
      by_cases hsk : s1 = true ∧ n % 2 = 0
      · obtain ⟨rfl, h0⟩ := hsk
        have h0' : (n : Int) % 2 = 0 := by omega
        have HH := Lib.hid h0
        clear h0 hm
        go_wp2_with fail
        refine ⟨⟨n - 1, by congr 1; omega, by have := HNO.out.1; omega, fun _ => by omega, ?_, bx, br, HBE.out⟩, by simp [intOf]; omega⟩
        intro h2 q hq ho t
        by_cases e : q = n
        · have := ho rfl
          have := HH.out
          omega
        · exact HNO.out.2.2 h2 q (by omega) ho t
      · have HOK : Hid (okE s1 n) := Lib.hid (fun h => by
          rcases hm with h0 | h0
          · exact absurd ⟨h, h0⟩ hsk
          · exact h0)
        have hgo : s1 = false ∨ (n : Int) % 2 = 1 := by
          rcases s1 with _ | _
          · exact .inl rfl
          · rcases hm with h0 | h0
            · exact absurd ⟨rfl, h0⟩ hsk
            · right; omega
        clear hsk hm
        go_upto_region 7 with (fail)
        go_cut [30] (fun t wx => wr = wx ∧ t = .bool false)
        case first =>
          rcases hgo with h | h
          · subst h
            go_wp2_with fail
            go_meet
            exact ⟨rfl, rfl⟩
          · rcases s1 with _ | _
            · go_wp2_with fail
              go_meet
              exact ⟨rfl, rfl⟩
            · go_wp2_with fail
              go_meet
              exact ⟨rfl, rfl⟩
        case rest =>
          obtain ⟨rfl, rfl⟩ := hcut
          clear hgo
          go_wp2_with fail
          have HN1 := Lib.hid (show 1 ≤ n by omega)
          have HIP := Lib.hid (iroot_pow HN1.out z.natAbs)
          have HLR := Lib.hid (show lc (iroot n z.natAbs) ≤ 4096 from Nat.le_trans (limbs_mono (iroot_le HN1.out _)) HL.out)
          refine (r18_Root _ z.natAbs n wr HUr.out.nat HL.out HN1.out (by omega)).mono ?_
          rintro e w3 ⟨v3, rfl, hv3, hb3⟩
          have bx3 := bx.below hb3 bx.lt
          have br3 := br.below hb3 br.lt
          have HB3 := Lib.hid (hb3.mono (Nat.le_refl _))
          have HU3 := Lib.hid (HUr.out.below hb3)
          have HV3 := Lib.hid hv3
          have HBR3 := Lib.hid (HBR.out.trans (hb3.mono HBR.out.size))
          have HBE3 := Lib.hid (HBE.out.trans (hb3.mono HBE.out.size))
          have r1 := later_cell bx3.cell1
          have HBX := Lib.hid (And.intro bx3 br3)
          obtain ⟨R, hR⟩ : ∃ R, iroot n z.natAbs = R := ⟨_, rfl⟩
          have HRR := Lib.hid hR
          rw [hR] at HV3 HLR HIP
          clear hv3 hb3 bx br a0 a1 bx3 br3 hR
          go_upto_region 9 with (fail)
          refine wp_region_stages (fun w' => ∃ δ : Later Nix w3, w' = δ.world) [(false, 0), (false, 1), (false, 2), (false, 3), (false, 5), (false, 6), (true, 4)] 7 [.reads [_, _, _, _, _, _], .loud _] [_, _] (by kernel_rfl) (by kernel_rfl) rfl rfl ?_ ?_
          · exact ⟨⟨_, nix_drawn w3⟩, rfl⟩
          refine wpStages_reads ?_
          repeat (go_big_quiet_step (fail))
          refine wpQuiet_nil ?_
          refine wpStages_loud rfl ?_
          intro K hK
          go_big_op
          refine (r18_power v3 _ R z.natAbs n (w3.drewN 1) (HV3.out.drewN 1) (HU3.out.nat.drewN 1) (by have := HLR.out; omega) (by have := HL.out; omega) (by omega)).mono ?_
          rintro e w4 ⟨v4, p, rfl, hv4, hps, hb4⟩
          have he4 : Ext Nix w3 w4 := (nix_drawn w3).later (Ext.of_below hb4)
          refine hK _ _ ⟨⟨w4, he4⟩, rfl⟩ ?_
          clear hK K r1
          refine wpStages_nil ?_
          have hb4' : Below w3.heap.size w3 w4 := he4.below
          have HV4 := Lib.hid (HV3.out.below hb4')
          have HU4 := Lib.hid (HU3.out.below hb4')
          have bx4 := HBX.out.1.below hb4' HBX.out.1.lt
          have br4 := HBX.out.2.below hb4' HBX.out.2.lt
          have HB4 := Lib.hid (HBR3.out.trans (hb4'.mono HBR3.out.size))
          have HE4 := Lib.hid (HBE3.out.trans (hb4'.mono HBE3.out.size))
          have HPS := Lib.hid hps
          clear he4 hb4 hb4' hps HBX HB3 HBR3 HBE3 HU3 HV3
          go_wp2_with fail
          refine (nat_cmp hv4 HU4.out.nat (by have := HPS.out.len; have := HL.out; have := HLR.out; omega) (by have := HL.out; omega)).mono ?_
          rintro e w5 ⟨rfl, hb5⟩
          have HV5 := Lib.hid (HV4.out.below hb5)
          have bx5 := bx4.below hb5 bx4.lt
          have br5 := br4.below hb5 br4.lt
          have HB5 := Lib.hid (HB4.out.trans (hb5.mono HB4.out.size))
          have HE5 := Lib.hid (HE4.out.trans (hb5.mono HE4.out.size))
          clear hv4 bx4 br4 HB4 HE4 HV4 hb5 HU4
          have hp : p = R ^ n := by
            rcases HPS.out.or with h | h
            · exact h
            · have := HIP.out
              have := h.2
              omega
          by_cases he : R ^ n = z.natAbs
          · rw [cmpN_eq (show p = z.natAbs by rw [hp, he])]
            have HE := Lib.hid he
            have a0 := bx5.cell0
            clear he hp
            go_wp2_with fail
            refine (r18_told s1 v3 R w5 HV5.out HLR.out).mono ?_
            rintro e w8 ⟨u, rfl, hu8, hb8⟩
            have br8 := br5.below hb8 br5.lt
            have hbw8 := Lib.hid (HB5.out.trans (hb8.mono HB5.out.size))
            obtain ⟨bu, Au, lu, cu, rfl, HU8⟩ := (hu8.since HB5.out.size).open
            clear hb8 br5 hu8 bx5 a0
            have HPR : Hid (PerfRef z (signed s1 R) n) := Lib.hid (by
              have h2 : 2 ≤ z.natAbs := by
                have h3 : ¬ nbits z.natAbs ≤ 1 := by have := HB.out; omega
                rw [nbits_le] at h3
                omega
              refine .inr ⟨h2, HN1.out, R, HE.out, ?_, ?_, ?_⟩
              · rw [← HS.out]; exact HOK.out
              · rw [← HS.out]; exact HNO.out.2.2 h2
              · rw [← HS.out])
            have a0 := br8.cell0
            have a1 := br8.cell1
            have f0 := br8.free 0
            have f1 := br8.free 1
            have nn := br8.nums
            go_wp2_with fail
            refine bodyPost_ret (v := .tuple #[.agg #[.bool bu, (.slice Au lu cu)], (.int .i64 (n : Int)), (.int .i64 0)]) (by
              rw [results_rec_two rfl]
              have hld := run_loadVar_row (P := Try.prog) _ r 36 36 #[.bool bu, (.slice Au lu cu)] (0, 0) _ br8.store Try.underlying36 rfl (by kernel_rfl)
              simp [asAddr, Result.andThen, hld]) rfl ?_
            exact ⟨_, _, _, rfl, HPR.out, HU8.out.store2 nn _ _, store2_below hbw8.out HGG.out⟩
          · obtain ⟨C, hC⟩ : ∃ C : Int, cmpN p z.natAbs = C := ⟨_, rfl⟩
            have hC0 : ¬ C = 0 := by
              rw [← hC]
              rcases Nat.lt_trichotomy p z.natAbs with h | h | h
              · rw [cmpN_lt h]; omega
              · exact absurd (by rw [← hp, h]) he
              · rw [cmpN_gt h]; omega
            have hCb : (C == 0) = false := beq_eq_false_iff_ne.2 hC0
            rw [hC]
            have HE := Lib.hid he
            clear he hp hC hC0
            go_wp2_with fail
            refine ⟨⟨n - 1, by congr 1; omega, by have := HNO.out.1; omega, fun _ => by omega, ?_, bx5, br5, HE5.out⟩, by simp [intOf]; omega⟩
            intro h2 q hq ho t ht
            by_cases e : q = n
            · subst e
              refine HE.out ?_
              rw [← HRR.out, ← ht, iroot_of_pow HN1.out]
            · exact HNO.out.2.2 h2 q (by omega) ho t ht
    · have HN1 := Lib.hid (show n < 2 by omega)
      have hnI : ¬ (2 : Int) ≤ (n : Int) := by omega
      clear hn2
      have a0 := bx.cell0
      have a1 := bx.cell1
      go_wp2_with fail
      refine (r18_told s1 _ z.natAbs wr HUr.out.nat HL.out).mono ?_
      rintro e w8 ⟨u, rfl, hu8, hb8⟩
      rw [HS.out, signed_self] at hu8
      have br8 := br.below hb8 br.lt
      have hbw8 := Lib.hid (HBR.out.trans (hb8.mono HBR.out.size))
      obtain ⟨bu, Au, lu, cu, rfl, HU8⟩ := (hu8.since HBR.out.size).open
      clear hb8 br hu8 bx a0 a1
      have HPR : Hid (PerfRef z z 1) := Lib.hid (by
        by_cases h2 : 2 ≤ z.natAbs
        · have h3 : 2 ≤ b := by
            have h4 : ¬ nbits z.natAbs ≤ 1 := fun h => by rw [nbits_le] at h; omega
            have := HB.out
            omega
          have h4 := HNO.out.2.1 h3
          refine .inr ⟨h2, Nat.le_refl _, z.natAbs, Nat.pow_one _, fun _ => rfl, ?_, (signed_self z).symm⟩
          rw [← HS.out]
          exact fun q hq => HNO.out.2.2 h2 q (by have := HN1.out; omega)
        · exact .inl ⟨by omega, rfl, rfl⟩)
      have a0 := br8.cell0
      have a1 := br8.cell1
      have f0 := br8.free 0
      have f1 := br8.free 1
      have nn := br8.nums
      go_wp2_with fail
      refine bodyPost_ret (v := .tuple #[.agg #[.bool bu, (.slice Au lu cu)], (.int .i64 ((1 : Nat) : Int)), (.int .i64 0)]) (by
        rw [results_rec_two rfl]
        have hld := run_loadVar_row (P := Try.prog) _ r 36 36 #[.bool bu, (.slice Au lu cu)] (0, 0) _ br8.store Try.underlying36 rfl (by kernel_rfl)
        simp [asAddr, Result.andThen, hld]) rfl ?_
      exact ⟨_, _, _, rfl, HPR.out, HU8.out.store2 nn _ _, store2_below hbw8.out HGG.out⟩
set_option maxHeartbeats 1000000 in
set_option maxRecDepth 100000 in
theorem r18_Of_bad (b : Bool) (A1 : Option Addr) (l1 c1 : Nat) (xs : List Nat) (n : Int) (w : World) (h1 : Lim w w.heap.size A1 xs) (hl : l1 = xs.length) (hbad : rightInt (b, xs) = false ∨ n < 1 ∨ (b = true ∧ n % 2 = 0)) (hn : n < 9223372036854775808) :
    Calls Try.prog 38 #[.agg #[.bool b, .slice A1 l1 c1], .int .i64 n] w fun e w' => e = .returned (.tuple #[none2, .int .i64 2]) ∧ Below w.heap.size w w' := by
  have H1 := Lib.hid (And.intro h1 hl)
  have HBAD := Lib.hid hbad
  have HN := Lib.hid hn
  clear h1 hl hbad hn
  go_enter Try.func38, Try.ntmps38
  go_wp2_with fail
  obtain ⟨W0, g, r, hW, hg, hr, hgr, bx, br, hbw, hsz⟩ := box_two w (.bool b) (.slice A1 l1 c1) (.bool false) (.slice none 0 0)
  have HGG := Lib.hid (show w.heap.size ≤ r by omega)
  have HBWS := Lib.hid (show Below w.heap.size w W0 from by rw [hg]; exact hbw)
  rw [hW, hr, hg]
  clear hW hr hg hgr hsz hbw
  refine (ref_rightInt b A1 l1 c1 xs W0 (Nat.le_refl _) ((H1.out.1.below HBWS.out).more HBWS.out.size) H1.out.2).mono ?_
  rintro e w1 ⟨rfl, hb1⟩
  have bx1 := bx.below hb1 bx.lt
  have br1 := br.below hb1 br.lt
  have hbw1 := Lib.hid (HBWS.out.trans (hb1.mono HBWS.out.size))
  have a0 := bx1.cell0
  have a1 := bx1.cell1
  have c0 := br1.cell0
  have c1' := br1.cell1
  have f0 := br1.free 0
  have f1 := br1.free 1
  clear bx br hb1 HBWS
  by_cases hr : rightInt (b, xs) = false
  · rw [hr]
    clear hr HBAD
    go_wp2_with fail
    refine bodyPost_ret (v := .tuple #[.agg #[.bool false, (.slice none 0 0)], (.int .i64 2)]) (by
      rw [results_cell_tmp rfl]
      have hld := run_loadVar_row (P := Try.prog) _ r 36 36 #[.bool false, (.slice none 0 0)] (0, 0) _ br1.store Try.underlying36 rfl (by kernel_rfl)
      simp [asAddr, Result.andThen, hld]) rfl ?_
    exact ⟨rfl, store2_below hbw1.out HGG.out⟩
  · have hr2 : rightInt (b, xs) = true := by simpa using hr
    rw [hr2]
    by_cases hn1 : n < 1
    · clear hr hr2 HBAD
      go_wp2_with fail
      refine bodyPost_ret (v := .tuple #[.agg #[.bool false, (.slice none 0 0)], (.int .i64 2)]) (by
        rw [results_cell_tmp rfl]
        have hld := run_loadVar_row (P := Try.prog) _ r 36 36 #[.bool false, (.slice none 0 0)] (0, 0) _ br1.store Try.underlying36 rfl (by kernel_rfl)
        simp [asAddr, Result.andThen, hld]) rfl ?_
      exact ⟨rfl, store2_below hbw1.out HGG.out⟩
    · have hb : b = true ∧ n % 2 = 0 := by
        rcases HBAD.out with h | h | h
        · exact absurd h hr
        · exact absurd h hn1
        · exact h
      obtain ⟨rfl, hm⟩ := hb
      clear hr hr2 HBAD
      go_wp2_with fail
      refine bodyPost_ret (v := .tuple #[.agg #[.bool false, (.slice none 0 0)], (.int .i64 2)]) (by
        rw [results_cell_tmp rfl]
        have hld := run_loadVar_row (P := Try.prog) _ r 36 36 #[.bool false, (.slice none 0 0)] (0, 0) _ br1.store Try.underlying36 rfl (by kernel_rfl)
        simp [asAddr, Result.andThen, hld]) rfl ?_
      exact ⟨rfl, store2_below hbw1.out HGG.out⟩
set_option maxHeartbeats 1000000 in
set_option maxRecDepth 100000 in
theorem r18_Perfect_bad (b : Bool) (A1 : Option Addr) (l1 c1 : Nat) (xs : List Nat) (w : World) (h1 : Lim w w.heap.size A1 xs) (hl : l1 = xs.length) (hbad : rightInt (b, xs) = false) :
    Calls Try.prog 40 #[.agg #[.bool b, .slice A1 l1 c1]] w fun e w' => e = .returned (.tuple #[none2, .int .i64 0, .int .i64 2]) ∧ Below w.heap.size w w' := by
  have H1 := Lib.hid (And.intro h1 hl)
  have HBAD := Lib.hid hbad
  clear h1 hl hbad
  go_enter Try.func40, Try.ntmps40
  go_wp2_with fail
  obtain ⟨W0, g, r, hW, hg, hr, hgr, bx, br, hbw, hsz⟩ := box_two w (.bool b) (.slice A1 l1 c1) (.bool false) (.slice none 0 0)
  have HGG := Lib.hid (show w.heap.size ≤ r by omega)
  have HBWS := Lib.hid (show Below w.heap.size w W0 from by rw [hg]; exact hbw)
  rw [hW, hr, hg]
  clear hW hr hg hgr hsz hbw
  refine (ref_rightInt b A1 l1 c1 xs W0 (Nat.le_refl _) ((H1.out.1.below HBWS.out).more HBWS.out.size) H1.out.2).mono ?_
  rintro e w1 ⟨rfl, hb1⟩
  have bx1 := bx.below hb1 bx.lt
  have br1 := br.below hb1 br.lt
  have hbw1 := Lib.hid (HBWS.out.trans (hb1.mono HBWS.out.size))
  have c0 := br1.cell0
  have c1' := br1.cell1
  have f0 := br1.free 0
  have f1 := br1.free 1
  clear bx br hb1 HBWS
  rw [HBAD.out]
  go_wp2_with fail
  refine bodyPost_ret (v := .tuple #[.agg #[.bool false, (.slice none 0 0)], (.int .i64 0), (.int .i64 2)]) (by
    rw [results_rec_two rfl]
    have hld := run_loadVar_row (P := Try.prog) _ r 36 36 #[.bool false, (.slice none 0 0)] (0, 0) _ br1.store Try.underlying36 rfl (by kernel_rfl)
    simp [asAddr, Result.andThen, hld]) rfl ?_
  exact ⟨rfl, store2_below hbw1.out HGG.out⟩
set_option maxHeartbeats 1000000 in
set_option maxRecDepth 100000 in
theorem r18_Square_bad (b : Bool) (A1 : Option Addr) (l1 c1 : Nat) (xs : List Nat) (w : World) (h1 : Lim w w.heap.size A1 xs) (hl : l1 = xs.length) (hbad : rightInt (b, xs) = false ∨ b = true) :
    Calls Try.prog 35 #[.agg #[.bool b, .slice A1 l1 c1]] w fun e w' => e = .returned (.tuple #[none2, none2, .int .i64 2]) ∧ Below w.heap.size w w' := by
  have H1 := Lib.hid (And.intro h1 hl)
  have HBAD := Lib.hid hbad
  clear h1 hl hbad
  go_enter Try.func35, Try.ntmps35
  go_wp2_with fail
  obtain ⟨W0, g, h, r, hW, hg, hh, hr, hgr, bx, by_, br, hbw, hsz⟩ := box_three w (.bool b) (.slice A1 l1 c1) (.bool false) (.slice none 0 0) (.bool false) (.slice none 0 0)
  have HGG := Lib.hid (show w.heap.size ≤ h ∧ w.heap.size ≤ r ∧ h ≠ r by omega)
  have HBWS := Lib.hid (show Below w.heap.size w W0 from by rw [hg]; exact hbw)
  rw [hW, hr, hh, hg]
  clear hW hr hh hg hgr hsz hbw
  refine (ref_rightInt b A1 l1 c1 xs W0 (Nat.le_refl _) ((H1.out.1.below HBWS.out).more HBWS.out.size) H1.out.2).mono ?_
  rintro e w1 ⟨rfl, hb1⟩
  have bx1 := bx.below hb1 bx.lt
  have by1 := by_.below hb1 by_.lt
  have br1 := br.below hb1 br.lt
  have hbw1 := Lib.hid (HBWS.out.trans (hb1.mono HBWS.out.size))
  have x0 := bx1.cell0
  have x1 := bx1.cell1
  have a0 := by1.cell0
  have a1 := by1.cell1
  have f0 := by1.free 0
  have f1 := by1.free 1
  have d0 := br1.cell0
  have d1 := br1.cell1
  have g0 := br1.free 0
  have g1 := br1.free 1
  have hne : ¬ h = r := HGG.out.2.2
  clear bx by_ br hb1 HBWS
  have bh := Box2.far (h := r) (a := .bool false) (b := .slice none 0 0) (by1.store (a := .bool false) (b := .slice none 0 0)) (fun e => hne e.symm)
  have brr := Box2.far (h := h) (a := .bool false) (b := .slice none 0 0) br1 hne
  rcases hr : rightInt (b, xs) with _ | _
  · clear hr HBAD
    go_wp2_with fail
    refine bodyPost_ret (v := .tuple #[.agg #[.bool false, (.slice none 0 0)], .agg #[.bool false, (.slice none 0 0)], (.int .i64 2)]) (by
      rw [results_rec2 rfl]
      have hld := run_loadVar_row (P := Try.prog) _ h 36 36 #[.bool false, (.slice none 0 0)] (0, 0) _ bh Try.underlying36 rfl (by kernel_rfl)
      have hld2 := run_loadVar_row (P := Try.prog) _ r 36 36 #[.bool false, (.slice none 0 0)] (0, 0) _ brr.store Try.underlying36 rfl (by kernel_rfl)
      simp [asAddr, Result.andThen, hld, hld2]) rfl ?_
    exact ⟨rfl, store2_below (store2_below hbw1.out HGG.out.1) HGG.out.2.1⟩
  · obtain rfl : b = true := by
      rcases HBAD.out with h | h
      · rw [hr] at h; exact absurd h (by decide)
      · exact h
    clear hr HBAD
    go_wp2_with fail
    refine bodyPost_ret (v := .tuple #[.agg #[.bool false, (.slice none 0 0)], .agg #[.bool false, (.slice none 0 0)], (.int .i64 2)]) (by
      rw [results_rec2 rfl]
      have hld := run_loadVar_row (P := Try.prog) _ h 36 36 #[.bool false, (.slice none 0 0)] (0, 0) _ bh Try.underlying36 rfl (by kernel_rfl)
      have hld2 := run_loadVar_row (P := Try.prog) _ r 36 36 #[.bool false, (.slice none 0 0)] (0, 0) _ brr.store Try.underlying36 rfl (by kernel_rfl)
      simp [asAddr, Result.andThen, hld, hld2]) rfl ?_
    exact ⟨rfl, store2_below (store2_below hbw1.out HGG.out.1) HGG.out.2.1⟩
end Go.Proofs.Ytmnfokapdipcdaa
