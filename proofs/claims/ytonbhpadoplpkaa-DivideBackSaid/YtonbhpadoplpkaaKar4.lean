import Derived.Test.YtonbhpadoplpkaaKar3
/- The package times: Mul of any numbers. -/
namespace Go.Proofs.Ytonbhpadoplpkaa
open Go.RowKit Go.Deep
set_option maxRecDepth 100000 in
theorem times_told_any (u v : Value) (d p : Nat) (x y : Int) (w : World) (hx : IntV w u x) (hy : IntV w v y) (lx : lc x.natAbs ≤ 4096) (ly : lc y.natAbs ≤ 4096) (hd : WayC w d p) :
    Calls Try.prog 43 #[u, v, .func (.func 63) #[] #[.pointer (some ⟨d, 0, none⟩), .pointer (some ⟨p, 0, none⟩)]] w fun e w' => ∃ v', e = .returned (.tuple #[v', .int .i64 (longE (x * y))]) ∧ RawAt w' w.heap.size v' (longR (x * y)) ∧ Below w.heap.size w w' := by
  obtain ⟨A1, l1, c1, rfl, hl1, hc1, hlim1⟩ := hx
  obtain ⟨A2, l2, c2, rfl, hl2, hc2, hlim2⟩ := hy
  have HR1 := Lib.hid (right_of lx)
  have HR2 := Lib.hid (right_of ly)
  have HL1 := Lib.hid hl1
  have HL2 := Lib.hid hl2
  have hI1 : (l1 : Int) ≤ 4096 := by unfold lc at lx; omega
  have hI2 : (l2 : Int) ≤ 4096 := by unfold lc at ly; omega
  have HX := Lib.hid lx
  have HY := Lib.hid ly
  clear hl1 hl2 lx ly
  obtain ⟨s1, hs1⟩ : ∃ s, decide (x < 0) = s := ⟨_, rfl⟩
  obtain ⟨s2, hs2⟩ : ∃ s, decide (y < 0) = s := ⟨_, rfl⟩
  have HS1 := Lib.hid hs1
  have HS2 := Lib.hid hs2
  rw [hs1, hs2]
  clear hs1 hs2
  have HCC := Lib.hid (And.intro hc1 hc2)
  have HDD := Lib.hid hd
  clear hd
  go_enter Try.func43, Try.ntmps43
  go_wp2_with fail
  obtain ⟨W0, g, h, r, hW, hg, hh, hr, hgr, bx, by_, br, hbw, hsz⟩ := box_three w (.bool s1) (.slice A1 l1 c1) (.bool s2) (.slice A2 l2 c2) (.bool false) (.slice none 0 0)
  have HW := Lib.hid (show w.heap.size = g from hg)
  replace HDD := Lib.hid (HDD.out.stay (show Below w.heap.size w W0 from hg ▸ hbw))
  rw [hW, hr, hh, hg]
  have k1 := ((hg ▸ hlim1 : Lim w g A1 (limbs x.natAbs)).below hbw)
  have k2 := ((hg ▸ hlim2 : Lim w g A2 (limbs y.natAbs)).below hbw)
  clear hW hr hh hlim1 hlim2
  refine (limb_right s1 A1 l1 c1 (limbs x.natAbs) W0 (by omega) k1 HL1.out).mono ?_
  rintro e w1 ⟨rfl, hb1⟩
  rw [← HS1.out, HR1.out, HS1.out]
  replace HDD := Lib.hid (HDD.out.stay hb1)
  have bx := bx.below hb1 bx.lt
  have by_ := by_.below hb1 by_.lt
  have br := br.below hb1 br.lt
  have hbw1 := hbw.trans (hb1.mono (by omega))
  have k1 := k1.below (hb1.mono (by omega))
  have k2 := k2.below (hb1.mono (by omega))
  have hsz1 := hb1.size
  have a0 := bx.cell0
  have a1 := bx.cell1
  have b0 := by_.cell0
  have b1 := by_.cell1
  clear hb1 hg
  go_wp2_with fail
  refine (limb_right s2 A2 l2 c2 (limbs y.natAbs) w1 (by omega) k2 HL2.out).mono ?_
  rintro e w2 ⟨rfl, hb2⟩
  rw [← HS2.out, HR2.out, HS2.out]
  replace HDD := Lib.hid (HDD.out.stay hb2)
  have bx := bx.below hb2 bx.lt
  have by_ := by_.below hb2 by_.lt
  have br := br.below hb2 br.lt
  have hbw2 := hbw1.trans (hb2.mono (by omega))
  have k1 := (k1.below (hb2.mono (by omega))).more (show g ≤ w2.heap.size by have := hb2.size; omega)
  have k2 := (k2.below (hb2.mono (by omega))).more (show g ≤ w2.heap.size by have := hb2.size; omega)
  have HSZ2 := Lib.hid (show g + 3 ≤ w2.heap.size by have := hb2.size; omega)
  clear hb2 a0 a1 b0 b1 hbw1 hbw hsz1 hsz
  have a0 := bx.cell0
  have a1 := bx.cell1
  have b0 := by_.cell0
  have b1 := by_.cell1
  have hNN := Int.natAbs_mul x y
  by_cases hbig : 4097 < l1 + l2
  · have hLONG : 4096 < lc (x * y).natAbs := by
      rw [hNN]
      have e1 := HL1.out
      have e2 := HL2.out
      have h1 : 0 < x.natAbs := Nat.pos_of_ne_zero fun h => by rw [h, limbs_zero] at e1; simp at e1; omega
      have h2 : 0 < y.natAbs := Nat.pos_of_ne_zero fun h => by rw [h, limbs_zero] at e2; simp at e2; omega
      have := lc_mul_ge h1 h2
      unfold lc at this ⊢
      omega
    have HR := Lib.hid (show longR (x * y) = (false, []) by unfold longR; rw [if_pos hLONG])
    have HE := Lib.hid (show longE (x * y) = 3 by unfold longE; rw [if_pos hLONG])
    have t2 : (0 : Int) < (l1 : Int) := by omega
    have t3 : (0 : Int) < (l2 : Int) := by omega
    have t1 : (4097 : Int) < (l1 : Int) + (l2 : Int) := by omega
    have d0 := br.cell0
    have d1 := br.cell1
    have fr := br.free
    clear hLONG hNN
    go_wp2_with fail
    refine bodyPost_ret (v := .tuple #[.agg #[.bool false, (.slice none 0 0)], (.int .i64 3)]) (by
      rw [results_cell_tmp rfl]
      have hld := run_loadVar_row (P := Try.prog) _ r 24 24 #[.bool false, (.slice none 0 0)] (0, 0) _ br.store Try.underlying24 rfl (by kernel_rfl)
      simp [asAddr, Result.andThen, hld]) rfl ?_
    rw [HR.out, HE.out]
    exact ⟨_, rfl, RawAt.zero _ _, by rw [HW.out]; exact store2_below hbw2 (by omega)⟩
  · have HNB := Lib.hid hbig
    have HNN := Lib.hid hNN
    have hcnd : ¬ ((4097 : Int) < (l1 : Int) + (l2 : Int)) := by omega
    have HBR := Lib.hid br
    have HBW := Lib.hid hbw2
    clear hbig hNN
    go_wp2_with fail
    refine (times_way d p 17179869184 (Nat.le_refl _) A1 A2 l1 l2 c1 c2 (limbs x.natAbs) (limbs y.natAbs) w2 k1 k2 HL1.out HL2.out HCC.out.1 HCC.out.2 (by omega) (by omega) HDD.out).mono ?_
    rintro e w3 ⟨A, c, rfl, hc, hlim, hf, hb3⟩
    rw [val_limbs, val_limbs, ← HNN.out] at hc hlim ⊢
    obtain ⟨n, hn⟩ : ∃ n, (limbs (x * y).natAbs).length = n := ⟨_, rfl⟩
    have HN := Lib.hid hn
    rw [hn]
    have br3 := HBR.out.below hb3 HBR.out.lt
    have bx3 := bx.below hb3 bx.lt
    have by3 := by_.below hb3 by_.lt
    have HBF := Lib.hid (HBW.out.trans (hb3.mono (by have := HSZ2.out; omega)))
    have HF := Lib.hid hf
    have HLIM := Lib.hid hlim
    have HC := Lib.hid (show n ≤ c by rw [← hn]; exact hc)
    clear a0 a1 b0 b1 hn hc hlim hf hb3 bx by_ br
    have a0 := bx3.cell0
    have b0 := by3.cell0
    have d0 := br3.cell0
    have d1 := br3.cell1
    have fr := br3.free
    by_cases hlong : 4096 < n
    · have HR := Lib.hid (show longR (x * y) = (false, []) by unfold longR; rw [if_pos (by unfold lc; rw [HN.out]; exact hlong)])
      have HE := Lib.hid (show longE (x * y) = 3 by unfold longE; rw [if_pos (by unfold lc; rw [HN.out]; exact hlong)])
      have hlI : (4096 : Int) < (n : Int) := by omega
      clear hlong
      go_wp2_with fail
      refine bodyPost_ret (v := .tuple #[.agg #[.bool false, (.slice none 0 0)], (.int .i64 3)]) (by
        rw [results_cell_tmp rfl]
        have hld := run_loadVar_row (P := Try.prog) _ r 24 24 #[.bool false, (.slice none 0 0)] (0, 0) _ br3.store Try.underlying24 rfl (by kernel_rfl)
        simp [asAddr, Result.andThen, hld]) rfl ?_
      rw [HR.out, HE.out]
      exact ⟨_, rfl, RawAt.zero _ _, by rw [HW.out]; exact store2_below HBF.out (by omega)⟩
    · have HOK : lc (x * y).natAbs ≤ 4096 := by unfold lc; rw [HN.out]; omega
      have HR := Lib.hid (longR_ok HOK)
      have HE := Lib.hid (longE_ok HOK)
      have hlI : ¬ ((4096 : Int) < (n : Int)) := by omega
      have HSG := Lib.hid (show decide (x * y < 0) = (decide (0 < n) && (s1 != s2)) by
        have h1 := signed_mul' s1 s2 x.natAbs y.natAbs
        rw [← HS1.out, ← HS2.out, signed_of, signed_of, HS1.out, HS2.out] at h1
        rw [← h1, signed_neg, Bool.and_comm, ← HN.out, ← Int.natAbs_mul, some_limbs])
      have HFIN := Lib.hid (fun (b : Bool) (hb : b = decide (x * y < 0)) => show RawAt ((w3.setCell ⟨r, 0, none⟩ (.bool b)).setCell ⟨r, 1, none⟩ (.slice A n c)) w.heap.size (.agg #[.bool b, .slice A n c]) (rawOf (x * y)) from by
        subst hb
        have h1 : RawAt w3 w2.heap.size (.agg #[.bool (decide (x * y < 0)), .slice A n c]) (rawOf (x * y)) := ⟨A, n, c, rfl, HN.out.symm, HC.out, HLIM.out, HF.out⟩
        exact (h1.ext (ext_store2 br3.nums) (fun i hi => by subst hi; have := HSZ2.out; omega)).since (by rw [HW.out]; have := HSZ2.out; omega))
      clear hlong HOK
      by_cases hn0 : 0 < n
      · have hn0I : (0 : Int) < (n : Int) := by omega
        have HB := Lib.hid (show (!(s1 == s2)) = decide (x * y < 0) by rw [HSG.out, decide_eq_true hn0, Bool.true_and]; rfl)
        clear hn0
        go_wp2_with fail
        refine bodyPost_ret (v := .tuple #[.agg #[.bool (!(s1 == s2)), (.slice A n c)], (.int .i64 0)]) (by
          rw [results_cell_tmp rfl]
          have hld := run_loadVar_row (P := Try.prog) _ r 24 24 #[.bool (!(s1 == s2)), (.slice A n c)] (0, 0) _ br3.store Try.underlying24 rfl (by kernel_rfl)
          simp [asAddr, Result.andThen, hld]) rfl ?_
        rw [HR.out, HE.out]
        exact ⟨_, rfl, HFIN.out _ HB.out, by rw [HW.out]; exact store2_below HBF.out (by omega)⟩
      · have hn0I : ¬ ((0 : Int) < (n : Int)) := by omega
        have HB := Lib.hid (show false = decide (x * y < 0) by rw [HSG.out, decide_eq_false hn0, Bool.false_and])
        clear hn0
        go_wp2_with fail
        refine bodyPost_ret (v := .tuple #[.agg #[.bool false, (.slice A n c)], (.int .i64 0)]) (by
          rw [results_cell_tmp rfl]
          have hld := run_loadVar_row (P := Try.prog) _ r 24 24 #[.bool false, (.slice A n c)] (0, 0) _ br3.store Try.underlying24 rfl (by kernel_rfl)
          simp [asAddr, Result.andThen, hld]) rfl ?_
        rw [HR.out, HE.out]
        exact ⟨_, rfl, HFIN.out _ HB.out, by rw [HW.out]; exact store2_below HBF.out (by omega)⟩
set_option maxHeartbeats 1000000 in
set_option maxRecDepth 100000 in
theorem times_Mul_any (u v : Value) (x y : Int) (w : World) (hx : IntV w u x) (hy : IntV w v y) (lx : lc x.natAbs ≤ 4096) (ly : lc y.natAbs ≤ 4096) :
    Calls Try.prog 21 #[u, v] w fun e w' => ∃ v', e = .returned (.tuple #[v', .int .i64 (longE (x * y))]) ∧ RawAt w' w.heap.size v' (longR (x * y)) ∧ Below w.heap.size w w' := by
  obtain ⟨s1, A1, l1, c1, rfl, HU⟩ := hx.open
  obtain ⟨s2, A2, l2, c2, rfl, HV⟩ := hy.open
  have LX := Lib.hid lx
  have LY := Lib.hid ly
  clear hx hy lx ly
  go_enter Try.func21, Try.ntmps21
  go_wp2_with fail
  obtain ⟨W0, g, h, r, hW, hg, hh, hr, hgr, bx, by_, br, hbw, hsz⟩ := box_three w (.bool s1) (.slice A1 l1 c1) (.bool s2) (.slice A2 l2 c2) (.bool false) (.slice none 0 0)
  have HW := Lib.hid (show w.heap.size = g from hg)
  rw [hW, hr, hh, hg]
  have HBW := Lib.hid hbw
  have HBWS := Lib.hid (show Below w.heap.size w W0 from by rw [hg]; exact hbw)
  clear hW hr hg hh hbw
  refine wp_region_stages (fun w' => ∃ δ : Later Nix W0, w' = δ.world) [(false, 0), (false, 1), (true, 2), (true, 3), (false, 4), (false, 5)] 6 [.reads [_, _], .loud _, .loud _, .reads [_, _]] [_, _] (by kernel_rfl) (by kernel_rfl) rfl rfl ?_ ?_
  · exact ⟨⟨_, nix_drawn W0⟩, rfl⟩
  have r0 := later_cell bx.cell0
  have r1 := later_cell bx.cell1
  have r2 := later_cell by_.cell0
  have r3 := later_cell by_.cell1
  refine wpStages_reads ?_
  repeat (go_big_quiet_step (fail))
  refine wpQuiet_nil ?_
  refine wpStages_loud rfl ?_
  intro K hK
  go_big_op
  refine (times_deep _).mono ?_
  rintro e w1 ⟨d, p, rfl, hd, hp, hsz1, hb1, hcd, hcp⟩
  have he1 : Ext Nix W0 w1 := (nix_drawn W0).later (Ext.of_below hb1)
  have HD := Lib.hid (show d < w1.heap.size by have h : (W0.drewN 1).heap.size = W0.heap.size := rfl; omega)
  clear hd hp hsz1
  refine hK _ _ ⟨⟨w1, he1⟩, rfl⟩ ?_
  clear hK K
  refine wpStages_loud rfl ?_
  intro K hK
  go_big_op
  have hb01 : Below W0.heap.size W0 w1 := Ext.below (he1.mono (fun _ _ h => h) (fun _ h => h.elim))
  refine (times_told_any _ _ d p x y w1 ((HU.out.below HBWS.out).below hb01) ((HV.out.below HBWS.out).below hb01) LX.out LY.out ⟨hcd, hcp⟩).mono ?_
  rintro e w2 ⟨v2, rfl, hv2, hb2⟩
  have he2 : Ext Nix W0 w2 := he1.later (Ext.of_below hb2)
  refine hK _ _ ⟨⟨w2, he2⟩, rfl⟩ ?_
  clear hK K
  obtain ⟨E, hE⟩ : ∃ E : Int, longE (x * y) = E := ⟨_, rfl⟩
  have HE := Lib.hid hE
  rw [hE]
  clear hE
  obtain ⟨b2, B2, m2, d2, rfl, HV2⟩ := hv2.open
  have hb02 : Below W0.heap.size W0 w2 := Ext.below (he2.mono (fun _ _ h => h) (fun _ h => h.elim))
  have br2 := br.below hb02 br.lt
  have HB2 := Lib.hid (HBW.out.trans (hb02.mono (by omega)))
  have hbl := hb01.size
  have HR := Lib.hid ((HV2.out.ext (ext_store2 (a := .bool b2) (b := .slice B2 m2 d2) br2.nums) (fun i hi => by subst hi; omega)).since (base' := w.heap.size) (by rw [HW.out]; omega))
  have d0 := br2.cell0
  have d1 := br2.cell1
  have fr := br2.free
  clear hv2 hb2 hb1 hcd hcp r0 r1 r2 r3
  refine wpStages_reads ?_
  repeat (go_big_quiet_step (fail))
  refine wpQuiet_nil ?_
  refine wpStages_nil ?_
  go_wp2_with fail
  refine bodyPost_ret (v := .tuple #[.agg #[.bool b2, (.slice B2 m2 d2)], (.int .i64 E)]) (by
    rw [results_cell_tmp rfl]
    have hld := run_loadVar_row (P := Try.prog) _ r 24 24 #[.bool b2, (.slice B2 m2 d2)] (0, 0) _ br2.store Try.underlying24 rfl (by kernel_rfl)
    simp [asAddr, Result.andThen, hld]) rfl ?_
  rw [HE.out]
  exact ⟨_, rfl, HR.out, by rw [HW.out]; exact store2_below HB2.out (by omega)⟩
end Go.Proofs.Ytonbhpadoplpkaa
