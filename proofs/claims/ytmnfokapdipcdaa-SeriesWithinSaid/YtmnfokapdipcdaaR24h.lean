import Derived.Test.YtmnfokapdipcdaaR24g
/- The package rosetteref24: within. -/
namespace Go.Proofs.Ytmnfokapdipcdaa
open Go.RowKit Go.Deep
theorem NRow.free {w : World} {base g n c : Nat} {zs : List Int} (h : NRow w base (.slice (some ⟨g, 0, none⟩) n c) zs) (k : Nat) : w.frozen? ⟨g, k, none⟩ = false := by
  obtain ⟨_, cs, h⟩ := h.type
  simp [World.frozen?, h]
theorem zAt_nil : zAt [] = fun _ => 0 := funext fun _ => zAt_past (Nat.zero_le _)
theorem zAt_one1 : zAt one1 = constZ 1 := by
  funext k
  cases k with
  | zero => rfl
  | succ k => rw [zAt_past (by simp [one1])]; rfl
set_option maxHeartbeats 1000000 in
set_option maxRecDepth 100000 in
theorem r24_within (u v : Value) (n ba bb M : Nat) (a b : Nat → Int) (w : World) (hA : NRow w ba u (firstZ a n)) (hB : NRow w bb v (firstZ b n)) (hn : n ≤ 4096)
    (hM : 0 < M) (hMl : lc (4096 * ((4096 * M) ^ n * M)) ≤ 67108864) (ha : ∀ k, k < n → (a k).natAbs ≤ M) (hb : ∀ k, k < n → (b k).natAbs ≤ M) :
    Calls Try.prog 64 #[u, v] w fun e w' => ∃ v', e = .returned v' ∧ NRow w' w.heap.size v' (firstZ (sumP a b n) n) ∧ Below w.heap.size w w' := by
  obtain ⟨Au, cu, rfl, hcu⟩ := hA.form
  obtain ⟨Av, cv, rfl, hcv⟩ := hB.form
  simp only [firstZ_len] at hA hB hcu hcv ⊢
  have hnI : (n : Int) ≤ 4096 := by omega
  have HN := Lib.hid hn
  have HM := Lib.hid hM
  have HML := Lib.hid hMl
  have HPW := Lib.hid (fun (i k : Nat) (hi : i ≤ n) (hk : k < n) => pw_small2 hn hM hb i k hi hk)
  have HBB := Lib.hid hb
  have hP : 0 < (4096 * M) ^ n := Nat.pow_pos (Nat.mul_pos (by omega) hM)
  have HA := Lib.hid (fun k hk => times_len2 (x := (a k).natAbs) hP hM hMl (ha k hk))
  have HP := Lib.hid (fun (i k : Nat) (hi : i ≤ n) (hk : k < n) => times_len (x := (pwZ b i k).natAbs) hP hM hMl (pw_small2 hn hM hb i k hi hk))
  have HC := Lib.hid (fun (i k : Nat) (hi : i ≤ n) (hk : k < n) => times_len3 (x := (sumP a b i k).natAbs) hMl hi hn (sumP_small hn hM ha hb k hk i hi))
  have HP0 := Lib.hid hP
  clear hn hM hMl ha hb hP
  go_enter Try.func64, Try.ntmps64
  go_wp2_with fail
  refine (r24_Series none 0 0 n [] w (Poly.nil _ _ _) rfl HN.out (fun x hx => by cases hx)).mono ?_
  rintro e w1 ⟨v1, rfl, hr1, hb1⟩
  obtain ⟨A1, c1, rfl, hc1⟩ := hr1.form
  simp only [firstZ_len] at hr1 hc1 ⊢
  clear hc1
  have HB0 := Lib.hid (show ∀ g, A1 = some ⟨g, 0, none⟩ → g < w1.heap.size from fun g hg => by
    subst hg
    obtain ⟨_, cs, h⟩ := hr1.type
    exact (Array.getElem?_eq_some_iff.1 h).1)
  go_wp2_with fail
  have hal : Below w1.heap.size w1 ((w1.alloc (.cells #[.int .u64 1] 33)).alloc (.cells #[.bool false, .slice (some ⟨w1.heap.size, 0, none⟩) 1 1] 36)) := ((Below.refl _ w1).alloc (Nat.le_refl _) _).alloc (by simp) _
  have hone := Poly.one (w := w1) (t1 := 33) (t2 := 36)
  obtain ⟨g1, hg1⟩ : ∃ g1, w1.heap.size + 1 = g1 := ⟨_, rfl⟩
  have HG1 := Lib.hid hg1
  rw [show w1.heap.size + 2 = ((w1.alloc (.cells #[.int .u64 1] 33)).alloc (.cells #[.bool false, .slice (some ⟨w1.heap.size, 0, none⟩) 1 1] 36)).heap.size by simp, hg1] at hone
  rw [hg1]
  generalize ((w1.alloc (.cells #[.int .u64 1] 33)).alloc (.cells #[.bool false, .slice (some ⟨w1.heap.size, 0, none⟩) 1 1] 36)) = W1 at hal hone ⊢
  clear hg1
  refine (r24_Series (some ⟨g1, 0, none⟩) 1 1 n one1 W1 hone rfl HN.out (fun x hx => Nat.le_trans (one1_small.1 x hx) (by omega))).mono ?_
  rintro e w2 ⟨v2, rfl, hr2, hb2⟩
  rw [zAt_one1] at hr2
  have hb12 : Below w1.heap.size w1 w2 := hal.trans (hb2.mono hal.size)
  have hr1 := hr1.below hb12
  have hr1 : NRow w2 w.heap.size (.slice A1 n c1) (firstZ (sumP a b 0) n) := by
    rw [zAt_nil] at hr1
    exact hr1
  have hbw : Below w.heap.size w w2 := below_trans hb1 hb12
  -- where the rows lie
  obtain ⟨B1, hB1, hpow⟩ : ∃ B1, (B1 ≤ w2.heap.size ∧ ∀ g, A1 = some ⟨g, 0, none⟩ → g < B1) ∧ NRow w2 B1 v2 (firstZ (pwZ b 0) n) := ⟨W1.heap.size, ⟨hb2.size, fun g hg => Nat.lt_of_lt_of_le (HB0.out g hg) hal.size⟩, hr2⟩
  have HB1 := Lib.hid hB1
  clear hr2 hb12 hb1 hb2 hal hone hB1
  go_wp2_with fail
  go_loopg [6, 7] n (fun gk t6 t7 wr => ∃ i : Nat, i + gk = n ∧ t7 = .int .i64 (i : Int) ∧ NRow wr w.heap.size (.slice A1 n c1) (firstZ (sumP a b i) n) ∧ NRow wr B1 t6 (firstZ (pwZ b i) n) ∧ Below w.heap.size w wr ∧ w2.heap.size ≤ wr.heap.size)
  case atStart => exact ⟨0, by omega, rfl, hr1, hpow, hbw, Nat.le_refl _⟩
  case round =>
    clear hr1 hpow hbw
    obtain ⟨wo, hwo⟩ : ∃ wo : World, wo = wr := ⟨_, rfl⟩
    subst hwo
    obtain ⟨i, hk, rfl, hout, hpow, hbel, hsz⟩ := hrel
    have HK := Lib.hid hk
    obtain ⟨A6, c6, rfl, hc6⟩ := hpow.form
    simp only [firstZ_len] at hpow hc6 ⊢
    clear hc6
    by_cases hlt : i < n
    · have hltI : (i : Int) < (n : Int) := by omega
      have HLT := Lib.hid hlt
      clear hk hlt
      go_wp2_with fail
      go_loopw [8] (fun t8 wi => ∃ j : Nat, j ≤ n ∧ t8 = .int .i64 (j : Int) ∧ NRow wi w.heap.size (.slice A1 n c1) (firstZ (mixP a b i j) n) ∧ NRow wi B1 (.slice A6 n c6) (firstZ (pwZ b i) n) ∧ Below w.heap.size w wi ∧ w2.heap.size ≤ wi.heap.size) (fun t8 _ => n - (intOf t8).toNat)
      case atStart => exact ⟨0, Nat.zero_le _, rfl, by rw [firstZ_congr (fun m _ => mix_zero a b i m)]; exact hout, hpow, hbel, hsz⟩
      case round =>
        clear hout hpow hbel hsz
        obtain ⟨j, hjn, rfl, hout, hpow, hbel, hsz⟩ := hrel
        by_cases hjlt : j < n
        · have hjI : (j : Int) < (n : Int) := by omega
          have HJ := Lib.hid hjlt
          obtain ⟨ga, ca, b2, u2, hv2, _, o0, o1, o2, hnumA⟩ := (hA.below hbel).at_ (j := i) (by have := HLT.out; rw [firstZ_len]; omega)
          rw [firstZ_get _ HLT.out] at hnumA
          injection hv2 with hv21 hv22 hv23
          subst hv21 hv23
          obtain ⟨gp, cp, b3, u3, hv3, _, q0, q1, q2, hnumP⟩ := hpow.at_ (j := j) (by rw [firstZ_len]; exact hjlt)
          rw [firstZ_get _ hjlt] at hnumP
          injection hv3 with hv31 hv32 hv33
          subst hv31 hv33
          obtain ⟨go, co, b4, u4, hv4, _, p0, p1, p2, hnumO⟩ := hout.at_ (j := j) (by rw [firstZ_len]; exact hjlt)
          rw [firstZ_get _ hjlt, mix_at] at hnumO
          injection hv4 with hv41 hv42 hv43
          subst hv41 hv43
          clear hv22 hv32 hv42 hjlt hjn
          go_wp2_with fail
          refine (num_zero _ (a i) wr hnumA (by have := HA.out i HLT.out; omega)).mono ?_
          rintro e w3 ⟨rfl, hb3⟩
          have hout3 := hout.below hb3
          have hpow3 := hpow.below hb3
          have hbel3 := hbel.trans (hb3.mono hbel.size)
          have hsz3 := Nat.le_trans hsz hb3.size
          by_cases ha0 : a i = 0
          · rw [decide_eq_true ha0]
            have HE := Lib.hid (mix_skip a b (i := i) (j := j) (.inl ha0))
            clear ha0
            go_wp2_with fail
            exact ⟨⟨j + 1, HJ.out, by go_num, by rw [← firstZ_congr (fun m _ => HE.out m)]; exact hout3, hpow3, hbel3, hsz3⟩, by have := HJ.out; simp [intOf]; omega⟩
          · rw [decide_eq_false ha0]
            clear ha0
            have hnumA3 := hnumA.below hb3
            have hnumP3 := hnumP.below hb3
            have hnumO3 := hnumO.below hb3
            have q0 := (hb3.cell (World.block_lt_of_cell? wr _ q0)).trans q0
            have q1 := (hb3.cell (World.block_lt_of_cell? wr _ q1)).trans q1
            have q2 := (hb3.cell (World.block_lt_of_cell? wr _ q2)).trans q2
            have o0 := (hb3.cell (World.block_lt_of_cell? wr _ o0)).trans o0
            have o1 := (hb3.cell (World.block_lt_of_cell? wr _ o1)).trans o1
            have o2 := (hb3.cell (World.block_lt_of_cell? wr _ o2)).trans o2
            have p0 := (hb3.cell (World.block_lt_of_cell? wr _ p0)).trans p0
            have p1 := (hb3.cell (World.block_lt_of_cell? wr _ p1)).trans p1
            have p2 := (hb3.cell (World.block_lt_of_cell? wr _ p2)).trans p2
            go_wp2_with fail
            refine (num_zero _ (pwZ b i j) w3 hnumP3 (by have := HP.out i j (Nat.le_of_lt HLT.out) HJ.out; omega)).mono ?_
            rintro e w4 ⟨rfl, hb4⟩
            have hout4 := hout3.below hb4
            have hpow4 := hpow3.below hb4
            have hbel4 := hbel3.trans (hb4.mono hbel3.size)
            have hsz4 := Nat.le_trans hsz3 hb4.size
            by_cases ha0 : pwZ b i j = 0
            · rw [decide_eq_true ha0]
              have HE := Lib.hid (mix_skip a b (i := i) (j := j) (.inr ha0))
              clear ha0
              go_wp2_with fail
              exact ⟨⟨j + 1, HJ.out, by go_num, by rw [← firstZ_congr (fun m _ => HE.out m)]; exact hout4, hpow4, hbel4, hsz4⟩, by have := HJ.out; simp [intOf]; omega⟩
            · rw [decide_eq_false ha0]
              clear ha0
              have hnumA4 := hnumA3.below hb4
              have hnumP4 := hnumP3.below hb4
              have hnumO4 := hnumO3.below hb4
              have HLA := Lib.hid (HA.out i HLT.out)
              have HLP := Lib.hid (HP.out i j (Nat.le_of_lt HLT.out) HJ.out)
              have HLO := Lib.hid (HC.out i j (Nat.le_of_lt HLT.out) HJ.out)
              have t0 := later_cell ((hb4.cell (World.block_lt_of_cell? w3 _ q0)).trans q0)
              have t1 := later_cell ((hb4.cell (World.block_lt_of_cell? w3 _ q1)).trans q1)
              have t2 := later_cell ((hb4.cell (World.block_lt_of_cell? w3 _ q2)).trans q2)
              have s0 := later_cell ((hb4.cell (World.block_lt_of_cell? w3 _ o0)).trans o0)
              have s1 := later_cell ((hb4.cell (World.block_lt_of_cell? w3 _ o1)).trans o1)
              have s2 := later_cell ((hb4.cell (World.block_lt_of_cell? w3 _ o2)).trans o2)
              have x0 := later_cell ((hb4.cell (World.block_lt_of_cell? w3 _ p0)).trans p0)
              have x1 := later_cell ((hb4.cell (World.block_lt_of_cell? w3 _ p1)).trans p1)
              have x2 := later_cell ((hb4.cell (World.block_lt_of_cell? w3 _ p2)).trans p2)
              have hgo := World.block_lt_of_cell? w3 _ p0
              clear q0 q1 q2 o0 o1 o2
              go_wp2_with fail
              refine wp_region_stages (fun w' => ∃ δ : Later Nix w4, w' = δ.world) [(false, 0), (false, 1), (false, 2), (false, 3), (false, 4), (false, 5), (false, 6), (false, 7), (false, 8), (false, 9), (false, 10), (false, 11), (false, 12), (false, 13), (true, 14), (true, 15)] 16 [.reads [_, _, _, _, _, _, _, _, _, _, _, _, _, _], .loud _, .loud _] [_, _] (by kernel_rfl) (by kernel_rfl) rfl rfl ?_ ?_
              · exact ⟨⟨_, nix_drawn w4⟩, rfl⟩
              refine wpStages_reads ?_
              repeat (go_big_quiet_step (fail))
              refine wpQuiet_nil ?_
              refine wpStages_loud rfl ?_
              intro K hK
              go_big_op
              have hbd := below_drewN (Below.refl w4.heap.size w4) 1
              refine (num_times _ _ (a i) (pwZ b i j) (w4.drewN 1) (hnumA4.below hbd) (hnumP4.below hbd) (by have := HLA.out; omega) (by have := HLP.out; omega)).mono ?_
              rintro e w5 ⟨v5, rfl, hz5, hb5⟩
              have he5 : Ext Nix w4 w5 := (nix_drawn w4).later (Ext.of_below hb5)
              refine hK _ _ ⟨⟨w5, he5⟩, rfl⟩ ?_
              clear hK K x0 x1 x2 s0 s1 s2 t0 t1 t2
              obtain ⟨b5, A5, l5, c5, rfl, hdum⟩ := id hz5
              clear hdum
              have HLT2 := Lib.hid (show (limbs (a i * pwZ b i j).natAbs).length ≤ 68719476736 by
                have h1 := lc_mul (a i).natAbs (pwZ b i j).natAbs
                rw [← Int.natAbs_mul] at h1
                have h2 := HLA.out
                have h3 := HLP.out
                unfold lc at h1
                omega)
              refine wpStages_loud rfl ?_
              intro K hK
              go_big_op
              refine (num_plus _ _ _ _ w5 (hnumO4.below he5.below) hz5 (by have := HLO.out; omega) HLT2.out).mono ?_
              rintro e w6 ⟨v6, rfl, hz6, hb6⟩
              have he6 : Ext Nix w4 w6 := he5.later (Ext.of_below hb6)
              refine hK _ _ ⟨⟨w6, he6⟩, rfl⟩ ?_
              clear hK K
              refine wpStages_nil ?_
              obtain ⟨b6, A6', l6, c6', rfl, hdum⟩ := id hz6
              clear hdum
              have hout6 := hout4.below he6.below
              have hpow6 := hpow4.below he6.below
              have hb46 := he6.below
              have d0 := (hb46.cell (World.block_lt_of_cell? w4 _ ((hb4.cell (World.block_lt_of_cell? w3 _ p0)).trans p0))).trans ((hb4.cell (World.block_lt_of_cell? w3 _ p0)).trans p0)
              have d1 := (hb46.cell (World.block_lt_of_cell? w4 _ ((hb4.cell (World.block_lt_of_cell? w3 _ p1)).trans p1))).trans ((hb4.cell (World.block_lt_of_cell? w3 _ p1)).trans p1)
              have d2 := (hb46.cell (World.block_lt_of_cell? w4 _ ((hb4.cell (World.block_lt_of_cell? w3 _ p2)).trans p2))).trans ((hb4.cell (World.block_lt_of_cell? w3 _ p2)).trans p2)
              have f0 := hout6.free
              have hset := hout6.set (j := j) (by rw [firstZ_len]; exact HJ.out) hz6
              rw [← mix_next, firstZ_set (fun m _ hm => mix_else a b hm)] at hset
              have hoth := hpow6.other (store3_grown w6 go (j * 3) (j * 3 + 1) (j * 3 + 2) (.bool b6) (.slice A6' l6 c6') (.int .i64 0)) (HB1.out.2 go rfl) hout6.type.2
              have hbase := hout6.type.1
              have hbel6 := hbel4.trans (hb46.mono hbel4.size)
              have hbe7 := ((hbel6.setCell (p := ⟨go, j * 3, none⟩) hbase (.bool b6)).setCell (p := ⟨go, j * 3 + 1, none⟩) hbase (.slice A6' l6 c6')).setCell (p := ⟨go, j * 3 + 2, none⟩) hbase (.int .i64 0)
              have hsz6 := Nat.le_trans hsz4 hb46.size
              clear p0 p1 p2
              go_wp2_with fail
              exact ⟨⟨j + 1, HJ.out, by go_num, hset, hoth, hbe7, by simpa using hsz6⟩, by have := HJ.out; simp [intOf]; omega⟩
        · obtain rfl : j = n := by omega
          have hjI : ¬ (j : Int) < (j : Int) := by omega
          have hout5 : NRow wr w.heap.size (.slice A1 j c1) (firstZ (sumP a b (i + 1)) j) := by
            rw [← firstZ_congr (fun m hm => mix_full a b (i := i) hm)]; exact hout
          clear hjlt hjn hout
          go_wp2_with fail
          refine (r24_product _ _ j B1 bb ((4096 * M) ^ j) M (pwZ b i) b wr hpow (hB.below hbel) HN.out HP0.out HM.out (by have := HML.out; omega) (fun k hk => HPW.out i k (Nat.le_of_lt HLT.out) hk) HBB.out).mono ?_
          rintro e w5 ⟨v5, rfl, hr5, hb5⟩
          have hk := HK.out
          have hpow5 : NRow w5 B1 v5 (firstZ (pwZ b (i + 1)) j) := hr5.since (Nat.le_trans HB1.out.1 hsz)
          have hout6 := hout5.below hb5
          have hbel6 := hbel.trans (hb5.mono hbel.size)
          have hsz6 := Nat.le_trans hsz hb5.size
          clear hr5
          go_wp2_with fail
          go_roundg (gk - 1)
          case measure => have := HLT.out; omega
          case rel => exact ⟨i + 1, by have := HLT.out; omega, by go_num, hout6, hpow5, hbel6, hsz6⟩
    · have hltI : (n : Int) ≤ (i : Int) := by omega
      obtain rfl : i = n := by omega
      clear hk
      go_wp2_with fail
      go_ret
      exact ⟨_, rfl, hout, hbel⟩
end Go.Proofs.Ytmnfokapdipcdaa
