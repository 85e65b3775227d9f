import Derived.Test.YtmnfokapdipcdaaRoot2
/- The package root: floor. -/
namespace Go.Proofs.Ytmnfokapdipcdaa
open Go.RowKit Go.Deep
set_option maxHeartbeats 1000000 in
set_option maxRecDepth 100000 in
theorem root_fits (gx ga bn ba n A X : Nat) (w : World) (hx : IntAt w gx (X : Int)) (ha : IntAt w ga (A : Int)) (hn : w.cell? ⟨bn, 0, none⟩ = some (.int .i64 (n : Int))) (hba : w.cell? ⟨ba, 0, none⟩ = some (.pointer (some ⟨ga, 0, none⟩))) (hn1 : n ≤ 262144) (hlx : lc X ≤ 137438953472) (hlp : lc (X ^ n) ≤ 137438953472) (hla : lc A ≤ 4096) :
    Calls Try.prog 131 #[.pointer (some ⟨gx, 0, none⟩), .pointer (some ⟨bn, 0, none⟩), .pointer (some ⟨ba, 0, none⟩)] w fun e w' => e = .returned (.bool (decide (X ^ n ≤ A))) ∧ Below w.heap.size w w' := by
  have LX := Lib.hid hlx
  have LP := Lib.hid hlp
  have LA := Lib.hid hla
  have r1 := later_cell hn
  have r2 := later_cell hba
  have hnI : (n : Int) ≤ 262144 := by omega
  clear hlx hlp hla
  go_enter Try.func131, Try.ntmps131
  go_wp2_with fail
  refine wp_region_stages (fun w' => ∃ δ : Later Nix w, w' = δ.world) [(false, 0), (false, 1), (false, 3), (true, 2)] 4 [.reads [_, _, _], .loud _] [_, _, _] (by kernel_rfl) (by kernel_rfl) rfl rfl ?_ ?_
  · exact ⟨⟨_, nix_drawn w⟩, rfl⟩
  refine wpStages_reads ?_
  repeat (go_big_quiet_step (fail))
  refine wpQuiet_nil ?_
  refine wpStages_loud rfl ?_
  intro K hK
  go_big_op
  have hb1 : Below w.heap.size w (w.drewN 1) := below_drewN (Below.refl _ _) 1
  refine (root_power gx n (X : Int) (w.drewN 1) (hx.drewN 1) (by rw [Int.natAbs_pow, Int.natAbs_natCast]; exact LP.out) (lc_cast LX.out) (by omega)).mono ?_
  rintro e w2 ⟨gp, rfl, hgp, hp, hb2⟩
  have hbw : Below w.heap.size w w2 := hb1.trans hb2
  rw [show ((X : Int) ^ n) = ((X ^ n : Nat) : Int) by simp] at hp
  have ha2 := ha.below hbw
  have HBW := Lib.hid hbw
  clear hgp hb1 hb2 hbw
  refine hK _ _ ⟨⟨w2, (Ext.of_below HBW.out).mono (fun _ _ h => h.elim) (fun _ h => h.elim)⟩, rfl⟩ ?_
  clear hK K
  refine wpStages_nil ?_
  go_wp2_with fail
  refine (int_cmp gp ga ((X ^ n : Nat) : Int) (A : Int) w2 hp ha2 (lc_cast (Nat.le_trans LP.out (by omega))) (lc_cast (Nat.le_trans LA.out (by omega)))).mono ?_
  rintro e w3 ⟨rfl, qd, rfl⟩
  rw [cmpZ_pos rfl rfl]
  have HBF := Lib.hid (below_drewN HBW.out qd)
  by_cases hc : X ^ n ≤ A
  · have HC := Lib.hid (decide_eq_true hc)
    obtain ⟨r, hr, hr0⟩ : ∃ r : Int, cmpN (X ^ n) A = r ∧ r ≤ 0 := by
      rcases Nat.lt_or_eq_of_le hc with h | h
      · exact ⟨-1, cmpN_lt h, by omega⟩
      · exact ⟨0, cmpN_eq h, by omega⟩
    rw [hr]
    clear hc hr
    go_wp2_with fail
    go_ret
    exact ⟨by rw [HC.out]; rfl, HBF.out⟩
  · have HC := Lib.hid (decide_eq_false hc)
    rw [cmpN_gt (by omega)]
    clear hc
    go_wp2_with fail
    go_ret
    exact ⟨by rw [HC.out]; rfl, HBF.out⟩
theorem floor_len {A n X : Nat} (hn1 : 1 ≤ n) (hA : nbits A ≤ 262144) (hn : n ≤ nbits A) (hX : X ≤ 2 ^ (nbits A / n + 1)) : lc (X ^ n) ≤ 8300 ∧ lc X ≤ 8300 := by
  obtain ⟨b, hb⟩ : ∃ b, nbits A = b := ⟨_, rfl⟩
  rw [hb] at hA hn hX
  have hd : b / n ≤ b := Nat.div_le_self _ _
  have h1 : nbits X ≤ b / n + 2 := nbits_le.2 (Nat.lt_of_le_of_lt hX (Nat.pow_lt_pow_right (by omega) (by omega)))
  have h2 : lc X ≤ 4100 := lc_le_nbits.2 (by omega)
  have h3 : X ^ n ≤ 2 ^ ((b / n + 1) * n) := by rw [Nat.pow_mul]; exact Nat.pow_le_pow_left hX n
  have h4 : (b / n + 1) * n ≤ b + n := by
    have h := Nat.div_mul_le_self b n
    rw [Nat.add_mul, Nat.one_mul]
    omega
  have h5 : nbits (X ^ n) ≤ (b / n + 1) * n + 1 := nbits_le.2 (Nat.lt_of_le_of_lt h3 (Nat.pow_lt_pow_right (by omega) (by omega)))
  have h6 : lc (X ^ n) ≤ 8300 := lc_le_nbits.2 (by omega)
  omega
set_option maxHeartbeats 4000000 in
set_option maxRecDepth 100000 in
theorem root_floor (ga n A : Nat) (w : World) (ha : IntAt w ga (A : Int)) (hn1 : 1 ≤ n) (hn : (n : Int) < 9223372036854775808) (hA : nbits A ≤ 262144) :
    Calls Try.prog 81 #[.pointer (some ⟨ga, 0, none⟩), .int .i64 (n : Int)] w fun e w' => ∃ g, e = .returned (.pointer (some ⟨g, 0, none⟩)) ∧ w.heap.size ≤ g ∧ IntAt w' g (iroot n A : Nat) ∧ Below w.heap.size w w' := by
  have HN := Lib.hid hn
  have HN1 := Lib.hid hn1
  have HA := Lib.hid hA
  have HLA := Lib.hid (show lc A ≤ 4096 from lc_le_nbits.2 (by omega))
  clear hn hn1 hA
  go_enter Try.func81, Try.ntmps81
  go_wp2_with fail
  have hex : ∃ (W : World) (ba bn : Nat), (w.alloc (.cells #[.pointer (some ⟨ga, 0, none⟩)] 75)).alloc (.cells #[.int .i64 (n : Int)] 3) = W ∧ w.heap.size = ba ∧ w.heap.size + 1 = bn ∧ bn = ba + 1 ∧ W.heap.size = ba + 2 ∧ W.cell? ⟨ba, 0, none⟩ = some (.pointer (some ⟨ga, 0, none⟩)) ∧ W.cell? ⟨bn, 0, none⟩ = some (.int .i64 (n : Int)) ∧ Below ba w W := by
    refine ⟨_, _, _, rfl, rfl, rfl, rfl, by simp, ?_, ?_, ((Below.refl _ _).alloc (Nat.le_refl _) _).alloc (by simp) _⟩
    · rw [cell_of_row _ _ 0 #[.pointer (some ⟨ga, 0, none⟩)] 75 (0, 0)]
      · rfl
      · rw [Below.heap_alloc _ _ _ (by simp)]; exact heap_alloc_new w _
    · rw [cell_of_row _ _ 0 #[.int .i64 (n : Int)] 3 (0, 0)]
      · rfl
      · have h := heap_alloc_new (w.alloc (.cells #[.pointer (some ⟨ga, 0, none⟩)] 75)) (.cells #[.int .i64 (n : Int)] 3)
        simpa using h
  obtain ⟨W0, ba, bn, hW, hba, hbn, hbb, hsz, ca, cn, hb0⟩ := hex
  have HBA := Lib.hid hba
  have HBB := Lib.hid hbb
  have HB0 := Lib.hid hb0
  have HS := Lib.hid hsz
  have ha0 := ha.below (show Below w.heap.size w W0 by rw [hba]; exact hb0)
  rw [hW, hbn, hba]
  clear hW hbn hba hbb hb0 ha hsz
  have hLA : (limbs ((A : Nat) : Int).natAbs).length ≤ 4096 := lc_cast HLA.out
  have HLC := Lib.hid hLA
  clear hLA
  refine (int_sign ga (A : Int) W0 ha0 (by have := HLC.out; omega)).mono ?_
  rintro e w1 ⟨rfl, rfl⟩
  by_cases hA0 : A = 0
  · subst hA0
    have HR := Lib.hid (iroot_zero HN1.out)
    rw [show (((0 : Nat) : Int)).sign = 0 from rfl]
    have cA := (((Below.refl W0.heap.size W0).alloc (Nat.le_refl _) (.cells #[.bool false, .slice none 0 0] 84)).cell (p := ⟨ba, 0, none⟩) (by have := HS.out; show ba < W0.heap.size; omega)).trans ca
    go_wp2_with fail
    have hA1 := Ext.alloc W0 (.cells #[.bool false, .slice none 0 0] 84)
    refine (int_set W0.heap.size ga 0 ((0 : Nat) : Int) _ (IntAt.fresh W0) (ha0.ext hA1 (fun h => h)) (by have := HLC.out; omega)).mono ?_
    rintro e w2 ⟨rfl, hz, he⟩
    go_wp2_with fail
    go_ret
    refine ⟨_, rfl, by rw [HBA.out]; have := HS.out; omega, by rw [HR.out]; exact hz, ?_⟩
    rw [HBA.out]
    exact HB0.out.trans (((hA1.hidden he (Nat.le_refl _)).below).mono (by have := HS.out; omega))
  · have hs : (A : Int).sign = 1 := Int.sign_eq_one_of_pos (by omega)
    have HA1 := Lib.hid (show 1 ≤ A by omega)
    rw [hs]
    clear hA0 hs
    by_cases hn1 : n = 1
    · subst hn1
      have HR := Lib.hid (iroot_one A)
      have cA := (((Below.refl W0.heap.size W0).alloc (Nat.le_refl _) (.cells #[.bool false, .slice none 0 0] 84)).cell (p := ⟨ba, 0, none⟩) (by have := HS.out; show ba < W0.heap.size; omega)).trans ca
      go_wp2_with fail
      have hA1 := Ext.alloc W0 (.cells #[.bool false, .slice none 0 0] 84)
      refine (int_set W0.heap.size ga 0 (A : Int) _ (IntAt.fresh W0) (ha0.ext hA1 (fun h => h)) (by have := HLC.out; omega)).mono ?_
      rintro e w2 ⟨rfl, hz, he⟩
      go_wp2_with fail
      go_ret
      refine ⟨_, rfl, by rw [HBA.out]; have := HS.out; omega, by rw [HR.out]; exact hz, ?_⟩
      rw [HBA.out]
      exact HB0.out.trans (((hA1.hidden he (Nat.le_refl _)).below).mono (by have := HS.out; omega))
    · have tn1 : ((n : Int) == 1) = false := beq_eq_false_iff_ne.2 (by omega)
      have HN2 := Lib.hid (show 2 ≤ n by have := HN1.out; omega)
      have r1 := later_cell cn
      have r2 := later_cell ca
      clear hn1
      go_wp2_with fail
      refine wp_region_stages (fun w' => ∃ δ : Later Nix W0, w' = δ.world) [(false, 0), (false, 1), (true, 2)] 3 [.reads [_, _], .loud _] [_, _] (by kernel_rfl) (by kernel_rfl) rfl rfl ?_ ?_
      · exact ⟨⟨_, nix_drawn W0⟩, rfl⟩
      refine wpStages_reads ?_
      repeat (go_big_quiet_step (fail))
      refine wpQuiet_nil ?_
      refine wpStages_loud rfl ?_
      intro K hK
      go_big_op
      refine (int_bitlen ga (A : Int) (W0.drewN 1) (ha0.drewN 1) (by have := HLC.out; omega)).mono ?_
      rintro e w2 ⟨rfl, rfl⟩
      rw [Int.natAbs_natCast]
      obtain ⟨b, hb⟩ : ∃ b, nbits A = b := ⟨_, rfl⟩
      have HB := Lib.hid hb
      have hbI : (b : Int) ≤ 262144 := by have := HA.out; omega
      rw [hb]
      clear hb r1 r2
      refine hK _ _ ⟨⟨_, nix_drawn W0⟩, rfl⟩ ?_
      clear hK K
      refine wpStages_nil ?_
      have ha1 := ha0.drewN 1
      have ca1 : (W0.drewN 1).cell? ⟨ba, 0, none⟩ = some (.pointer (some ⟨ga, 0, none⟩)) := ca
      have cn1 : (W0.drewN 1).cell? ⟨bn, 0, none⟩ = some (.int .i64 (n : Int)) := cn
      have HS : Hid ((W0.drewN 1).heap.size = ba + 2) := HS
      have HB1 := Lib.hid (below_drewN HB0.out 1)
      generalize W0.drewN 1 = W1 at ha1 ca1 cn1 HS HB1 ⊢
      clear ha0 ca cn
      by_cases hnb : b ≤ n
      · have HR := Lib.hid (iroot_few (n := n) (a := A) HN1.out HA1.out (by rw [HB.out]; exact hnb))
        have hnbI : (b : Int) ≤ (n : Int) := by omega
        clear hnb
        go_wp2_with fail
        refine (big_newInt 1 W1 (by omega) (by omega)).mono ?_
        rintro e w3 ⟨rfl, hz, he⟩
        go_wp2_with fail
        go_ret
        refine ⟨_, rfl, by rw [HBA.out]; have := HS.out; omega, by rw [HR.out]; exact hz, ?_⟩
        rw [HBA.out]
        exact HB1.out.trans (he.below.mono (by have := HS.out; omega))
      · have hnbI : ¬ ((b : Int) ≤ (n : Int)) := by omega
        have HNB := Lib.hid (show n < b by omega)
        have hnL : (n : Int) ≤ 262144 := by omega
        clear hnb
        by_cases hn2 : n = 2
        · subst hn2
          have HR := Lib.hid (show iroot 2 A = isqrt A by
            obtain ⟨q1, q2⟩ := isqrt_spec A
            exact iroot_eq (by omega) (by rw [Nat.pow_two]; exact q1) (by rw [Nat.pow_two]; exact q2))
          have cA := (((Below.refl W1.heap.size W1).alloc (Nat.le_refl _) (.cells #[.bool false, .slice none 0 0] 84)).cell (p := ⟨ba, 0, none⟩) (by have := HS.out; show ba < W1.heap.size; omega)).trans ca1
          go_wp2_with fail
          have hA1 := Ext.alloc W1 (.cells #[.bool false, .slice none 0 0] 84)
          refine (int_sqrt W1.heap.size ga 0 (A : Int) _ (IntAt.fresh W1) (ha1.ext hA1 (fun h => h)) (by have := HLC.out; omega)).mono ?_
          rintro e w2 ⟨rfl, hz, he⟩
          rw [Int.natAbs_natCast] at hz
          go_wp2_with fail
          go_ret
          refine ⟨_, rfl, by rw [HBA.out]; have := HS.out; omega, by rw [HR.out]; exact hz, ?_⟩
          rw [HBA.out]
          exact HB1.out.trans (((hA1.hidden he (Nat.le_refl _)).below).mono (by have := HS.out; omega))
        · have tn2 : ((n : Int) == 2) = false := beq_eq_false_iff_ne.2 (by omega)
          have tn0 : ((n : Int) == 0) = false := beq_eq_false_iff_ne.2 (by have := HN2.out; omega)
          obtain ⟨q, hq⟩ : ∃ q, b / n = q := ⟨_, rfl⟩
          have HQ := Lib.hid hq
          have hqI : (b : Int).tdiv (n : Int) = (q : Int) := by
            rw [Int.tdiv_eq_ediv_of_nonneg (by omega), ← hq]
            simp
          have hqb : q ≤ b := by rw [← hq]; exact Nat.div_le_self _ _
          have hqI2 : (q : Int) ≤ 262144 := by omega
          have hn0 : ¬ n = 0 := by have := HN2.out; omega
          have hn0I : ¬ (n : Int) = 0 := by omega
          have hqN : q ≤ 262144 := by omega
          have r1 := later_cell cn1
          have r2 := later_cell ca1
          clear hn2 hq
          go_wp2_with fail
          refine wp_region_stages (fun w' => ∃ δ : Later Nix W1, w' = δ.world) [(false, 0), (false, 2), (true, 1)] 3 [.reads [_, _], .loud _] [_, _] (by kernel_rfl) (by kernel_rfl) rfl rfl ?_ ?_
          · exact ⟨⟨_, nix_drawn W1⟩, rfl⟩
          refine wpStages_reads ?_
          repeat (go_big_quiet_step (fail))
          refine wpQuiet_nil ?_
          refine wpStages_loud rfl ?_
          intro K hK
          go_big_op
          refine (int_bitlen ga (A : Int) (W1.drewN 1) (ha1.drewN 1) (by have := HLC.out; omega)).mono ?_
          rintro e w2 ⟨rfl, rfl⟩
          rw [Int.natAbs_natCast, HB.out]
          refine hK _ _ ⟨⟨_, nix_drawn W1⟩, rfl⟩ ?_
          clear hK K r1 r2
          refine wpStages_nil ?_
          have ha2 := ha1.drewN 1
          have ca2 : (W1.drewN 1).cell? ⟨ba, 0, none⟩ = some (.pointer (some ⟨ga, 0, none⟩)) := ca1
          have cn2 : (W1.drewN 1).cell? ⟨bn, 0, none⟩ = some (.int .i64 (n : Int)) := cn1
          have HS : Hid ((W1.drewN 1).heap.size = ba + 2) := HS
          have HB2 := Lib.hid (below_drewN HB1.out 1)
          generalize W1.drewN 1 = W2 at ha2 ca2 cn2 HS HB2 ⊢
          clear ha1 ca1 cn1
          by_cases hbig : 64 < q
          · have hbigI : (64 : Int) < (q : Int) := by omega
            clear hbig
            go_wp2_with fail
            refine (root_newton ga n A W2 ha2 HN2.out (by rw [HB.out]; exact Nat.le_of_lt HNB.out) HA.out).mono ?_
            rintro e w3 ⟨g, rfl, hg, hz, hb3⟩
            go_wp2_with fail
            go_ret
            refine ⟨g, rfl, by rw [HBA.out]; have := HS.out; omega, hz, ?_⟩
            rw [HBA.out]
            exact HB2.out.trans (hb3.mono (by have := HS.out; omega))
          · have hbigI : ¬ ((64 : Int) < (q : Int)) := by omega
            have HQ64 := Lib.hid (show q ≤ 64 by omega)
            clear hbig
            go_wp2_with fail
            have hA3 : Below W2.heap.size W2 (W2.alloc (.cells #[.bool false, .slice none 0 0] 84)) := (Below.refl _ _).alloc (Nat.le_refl _) _
            have hf3 := IntAt.fresh W2
            have hlB : ba < W2.heap.size ∧ bn < W2.heap.size := by have := HS.out; have := HBB.out; omega
            have HLB := Lib.hid hlB
            have ca3 := (hA3.cell (p := ⟨ba, 0, none⟩) hlB.1).trans ca2
            have cn3 := (hA3.cell (p := ⟨bn, 0, none⟩) hlB.2).trans cn2
            have ha3 := ha2.below hA3
            obtain ⟨gr, hgr⟩ : ∃ gr, W2.heap.size = gr := ⟨_, rfl⟩
            have HGR := Lib.hid hgr
            have HA3 := Lib.hid hA3
            rw [hgr] at hf3 ⊢
            generalize W2.alloc (.cells #[.bool false, .slice none 0 0] 84) = W3 at HA3 hf3 ca3 cn3 ha3 ⊢
            have r1 := later_cell cn3
            have r2 := later_cell ca3
            clear hA3 hlB hgr
            refine wp_region_stages (fun w' => ∃ δ : Later Nix W3, w' = δ.world) [(false, 0), (false, 2), (true, 1)] 3 [.reads [_, _], .loud _] [_, _] (by kernel_rfl) (by kernel_rfl) rfl rfl ?_ ?_
            · exact ⟨⟨_, nix_drawn W3⟩, rfl⟩
            refine wpStages_reads ?_
            repeat (go_big_quiet_step (fail))
            refine wpQuiet_nil ?_
            refine wpStages_loud rfl ?_
            intro K hK
            go_big_op
            refine (int_bitlen ga (A : Int) (W3.drewN 1) (ha3.drewN 1) (by have := HLC.out; omega)).mono ?_
            rintro e w2 ⟨rfl, rfl⟩
            rw [Int.natAbs_natCast, HB.out]
            refine hK _ _ ⟨⟨_, nix_drawn W3⟩, rfl⟩ ?_
            clear hK K r1 r2
            refine wpStages_nil ?_
            have hf4 := hf3.drewN 1
            have hb4 : Below W2.heap.size W2 (W3.drewN 1) := below_drewN HA3.out 1
            have HB4 := Lib.hid hb4
            have hst0 : Bitwise A n (q + 1) 0 := Bitwise.start HN1.out (by
              have h := iroot_start (n := n) (a := A) HN1.out
              rwa [HB.out, HQ.out] at h)
            generalize W3.drewN 1 = W4 at hf4 HB4 ⊢
            clear hf3 ca3 cn3 ha3 hb4
            go_wp2_with fail
            go_loopw [7] (fun t7 wr => ∃ k R : Nat, k ≤ q + 1 ∧ t7 = .int .i64 ((k : Int) - 1) ∧ Bitwise A n k R ∧ R + 2 ^ k ≤ 2 ^ (q + 1) ∧ IntAt wr gr (R : Int) ∧ Below W2.heap.size W2 wr) (fun t7 _ => (intOf t7 + 1).toNat)
            case atStart => exact ⟨q + 1, 0, Nat.le_refl _, by go_num, hst0, by omega, hf4, HB4.out⟩
            case round =>
              clear hf4
              obtain ⟨k, R, hk, rfl, hbw, hR, hr, hb⟩ := hrel
              rcases k with _ | k
              · have HR := Lib.hid (Bitwise.root HN1.out hbw)
                have HBE := Lib.hid hb
                clear hbw hR hb
                go_wp2_with fail
                go_ret
                refine ⟨gr, rfl, by rw [HBA.out]; have := HGR.out; have := HS.out; omega, by rw [HR.out]; exact hr, ?_⟩
                rw [HBA.out]
                exact HB2.out.trans (HBE.out.mono (by have := HS.out; omega))
              · have e1 : ((k + 1 : Nat) : Int) - 1 = (k : Int) := by omega
                have hk0 : (0 : Int) ≤ (k : Int) := by omega
                have hkq : k ≤ 64 := by have := HQ64.out; omega
                rw [e1]
                have hX2 : R + 2 ^ k ≤ 2 ^ (q + 1) := by rw [Nat.pow_succ] at hR; omega
                obtain ⟨L1, L2⟩ := floor_len (X := R + 2 ^ k) HN1.out HA.out (by rw [HB.out]; exact Nat.le_of_lt HNB.out) (by rw [HB.out, HQ.out]; exact hX2)
                have HL1 := Lib.hid L1
                have HL2 := Lib.hid L2
                have HBW := Lib.hid hbw
                have HRR := Lib.hid hR
                have HX2 := Lib.hid hX2
                have HBE := Lib.hid hb
                have HLR := Lib.hid (show (limbs R).length ≤ 8300 from Nat.le_trans (limbs_mono (show R ≤ R + 2 ^ k from Nat.le_add_right _ _)) L2)
                clear hbw hR hX2 L1 L2 hb
                go_wp2_with fail
                refine (int_setBit1 gr gr k R (R : Int) wr hr hr (Nat.le_trans HLR.out (by omega)) (by omega) (bit_zero HBW.out.mult)).mono ?_
                rintro e w5 ⟨rfl, hr5, he5⟩
                have hb5 : Below W2.heap.size W2 w5 := (Ext.hidden (Ext.of_below HBE.out) he5 (by rw [HGR.out]; exact Nat.le_refl _)).below
                have ha5 := ha2.below hb5
                have ca5 := (hb5.cell (p := ⟨ba, 0, none⟩) HLB.out.1).trans ca2
                have cn5 := (hb5.cell (p := ⟨bn, 0, none⟩) HLB.out.2).trans cn2
                clear hr
                go_wp2_with fail
                refine (root_fits gr ga bn ba n A (R + 2 ^ k) w5 hr5 ha5 cn5 ca5 (by omega) (Nat.le_trans HL2.out (by omega)) (Nat.le_trans HL1.out (by omega)) HLA.out).mono ?_
                rintro e w6 ⟨rfl, hb6⟩
                have hr6 := hr5.below hb6
                have HB6 := Lib.hid (hb5.trans (hb6.mono hb5.size))
                clear hr5 ha5 ca5 cn5 hb5 hb6
                by_cases hfit : (R + 2 ^ k) ^ n ≤ A
                · have HF := Lib.hid (HBW.out.up hfit)
                  rw [decide_eq_true hfit]
                  clear hfit
                  go_wp2_with fail
                  exact ⟨⟨k, R + 2 ^ k, by omega, by go_num, HF.out, by have h := HRR.out; rw [Nat.pow_succ] at h; omega, hr6, HB6.out⟩, by simp [intOf]⟩
                · have HF := Lib.hid (HBW.out.stay hfit)
                  rw [decide_eq_false hfit]
                  clear hfit
                  go_wp2_with fail
                  refine (int_setBit0 gr gr k (R + 2 ^ k) ((R + 2 ^ k : Nat) : Int) w6 hr6 hr6 (Nat.le_trans HL2.out (by omega)) (by omega) (bit_one HBW.out.mult)).mono ?_
                  rintro e w7 ⟨rfl, hr7, he7⟩
                  rw [Nat.add_sub_cancel] at hr7
                  have hb7 : Below W2.heap.size W2 w7 := (Ext.hidden (Ext.of_below HB6.out) he7 (by rw [HGR.out]; exact Nat.le_refl _)).below
                  go_wp2_with fail
                  exact ⟨⟨k, R, by omega, by go_num, HF.out, HX2.out, hr7, hb7⟩, by simp [intOf]⟩
end Go.Proofs.Ytmnfokapdipcdaa
