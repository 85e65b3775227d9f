import Derived.Test.YtmnfokapdipcdaaR24c
/- The package rosetteref24: over, Over, Inverse. -/
namespace Go.Proofs.Ytmnfokapdipcdaa
open Go.RowKit Go.Deep
theorem NumAt.slice {w : World} {b : Bool} {u x : Value} {z : Int} (h : NumAt w (.agg #[.bool b, u, x]) z) : ∃ A l c, u = .slice A l c := by
  obtain ⟨b', A, l, c, e, _⟩ := h
  have h1 := congrArg (fun v : Value => match v with | .agg cs => cs[1]? | _ => none) e
  exact ⟨A, l, c, by simpa using h1⟩
set_option maxHeartbeats 1000000 in
set_option maxRecDepth 100000 in
theorem r24_over (u v : Value) (n ba bb M : Nat) (a b : Nat → Int) (w : World) (hA : NRow w ba u (firstZ a n)) (hB : NRow w bb v (firstZ b n)) (hn : n ≤ 4096)
    (hM : 0 < M) (hMl : lc ((4 * M) ^ (n + 1)) ≤ 134217728) (ha : ∀ k, k < n → (a k).natAbs ≤ M) (hb : ∀ k, k < n → (b k).natAbs ≤ M) (hu : (b 0).natAbs = 1) :
    Calls Try.prog 59 #[u, v] w fun e w' => ∃ v', e = .returned v' ∧ NRow w' w.heap.size v' (firstZ (overZ a b) n) ∧ Below w.heap.size w w' := by
  obtain ⟨Au, cu, rfl, hcu⟩ := hA.form
  obtain ⟨Av, cv, rfl, hcv⟩ := hB.form
  simp only [firstZ_len] at hA hB hcu hcv ⊢
  have hnI : (n : Int) ≤ 4096 := by omega
  have HMl := Lib.hid hMl
  have HU := Lib.hid hu
  clear hMl hn hu
  go_enter Try.func59, Try.ntmps59
  go_wp2_with fail
  go_loopg [5, 6] n (fun gk t5 t6 wr => ∃ i : Nat, i + gk = n ∧ t6 = .int .i64 (i : Int) ∧ NRow wr w.heap.size t5 (firstZ (overZ a b) i) ∧ Below w.heap.size w wr)
  case atStart => exact ⟨0, by omega, rfl, NRow.nil _ _, Below.refl _ _⟩
  case round =>
    obtain ⟨wo, hwo⟩ : ∃ wo : World, wo = wr := ⟨_, rfl⟩
    subst hwo
    obtain ⟨i, hk, rfl, hrow, hbel⟩ := hrel
    have HK := Lib.hid hk
    by_cases hlt : i < n
    · obtain ⟨ga, ca, b1, u1, hv, _, hc0, hc1, hc2, hnum⟩ := (hA.below hbel).at_ (j := i) (by rw [firstZ_len]; exact hlt)
      rw [firstZ_get a hlt] at hnum
      injection hv with hv1 hv2 hv3
      subst hv1 hv3
      obtain ⟨A1, l1, c1, rfl⟩ := hnum.slice
      obtain ⟨A5, c5, hv5, hc5⟩ := hrow.form
      rw [firstZ_len] at hv5 hc5
      have hltI : (i : Int) < (n : Int) := by omega
      clear hv2 hk hc5
      subst hv5
      go_upto_region 6 with (fail)
      have hbx : Box3 (wo.alloc (.cells #[.bool b1, .slice A1 l1 c1, .int .i64 0] 79)) wo.heap.size 79 (.bool b1) (.slice A1 l1 c1) (.int .i64 0) := heap_alloc_new wo _
      have hbr0 : Below wo.heap.size wo (wo.alloc (.cells #[.bool b1, .slice A1 l1 c1, .int .i64 0] 79)) := (Below.refl _ _).alloc (Nat.le_refl _) _
      have hnum0 := hnum.below hbr0
      obtain ⟨B0, hB0⟩ : ∃ B0, wo.heap.size = B0 := ⟨_, rfl⟩
      rw [hB0] at hbx ⊢
      have HB0 := Lib.hid (show wo.heap.size ≤ B0 by omega)
      generalize wo.alloc (.cells #[.bool b1, .slice A1 l1 c1, .int .i64 0] 79) = W0 at hbx hbr0 hnum0 ⊢
      clear hnum hc0 hc1 hc2 hB0
      go_wp2_with fail
      go_loopw [8] (fun t8 wi => ∃ (j : Nat) (bL : Bool) (AL : Option Addr) (lL cL : Nat), j ≤ i ∧ t8 = .int .i64 (j : Int) ∧ Box3 wi B0 79 (.bool bL) (.slice AL lL cL) (.int .i64 0) ∧ NumAt wi (.agg #[.bool bL, .slice AL lL cL, .int .i64 0]) (refS (a i) (overZ a b) b i j) ∧ Below wo.heap.size wo wi) (fun t8 _ => i - (intOf t8).toNat)
      case atStart => exact ⟨0, b1, A1, l1, c1, by omega, rfl, hbx, hnum0, hbr0⟩
      case round =>
        clear hbx hnum0 hbr0
        obtain ⟨j, bL, AL, lL, cL, hji, rfl, hbx, hnumL, hbr⟩ := hrel
        have hbw := hbel.trans (hbr.mono hbel.size)
        by_cases hjlt : j < i
        · obtain ⟨go, co, b2, u2, hv2, _, o0, o1, o2, hnumO⟩ := (hrow.below hbr).at_ (j := j) (by rw [firstZ_len]; exact hjlt)
          rw [firstZ_get _ hjlt] at hnumO
          injection hv2 with hv21 hv22 hv23
          subst hv21 hv23
          obtain ⟨d, hd⟩ : ∃ d, i - j = d := ⟨_, rfl⟩
          obtain ⟨gb, cb, b3, u3, hv3, _, q0, q1, q2, hnumB⟩ := (hB.below hbw).at_ (j := d) (by rw [firstZ_len]; omega)
          rw [firstZ_get _ (by omega)] at hnumB
          injection hv3 with hv31 hv32 hv33
          subst hv31 hv33
          have hdI : (i : Int) - (j : Int) = (d : Int) := by omega
          have hdn : (d : Int) < (n : Int) := by omega
          have hdnN : d < n := by omega
          have hjI : (j : Int) < (i : Int) := by omega
          have HD := Lib.hid hd
          have x0 := later_cell hbx.cell0
          have x1 := later_cell hbx.cell1
          have x2 := later_cell hbx.cell2
          have s0 := later_cell o0
          have s1 := later_cell o1
          have s2 := later_cell o2
          have t0 := later_cell q0
          have t1 := later_cell q1
          have t2 := later_cell q2
          have HLO := Lib.hid (len_of_pow2 hM (show j + 1 ≤ n + 1 by omega) (overZ_small hM ha hb j (by omega)) HMl.out)
          have HLB := Lib.hid (len_of_pow hM (hb d hdnN) HMl.out)
          have HLL := Lib.hid (len_of_pow2 hM (show i + 1 ≤ n + 1 by omega) (refS_small (a := a i) (o := overZ a b) (b := b) (i := i) (j := j) hM (ha i hlt) (fun k hk => hb k (by omega)) (fun k hk => overZ_small hM ha hb k (by omega)) (by omega)) HMl.out)
          have HREF := Lib.hid (show refS (a i) (overZ a b) b i (j + 1) = refS (a i) (overZ a b) b i j - overZ a b j * b d by rw [← hd]; rfl)
          clear hv22 hv32 hd o0 o1 o2 q0 q1 q2
          go_wp2_with fail
          refine wp_region_stages (fun w' => ∃ δ : Later Nix wr, w' = δ.world) [(false, 0), (false, 1), (false, 2), (false, 3), (false, 4), (false, 5), (false, 6), (false, 7), (false, 8), (false, 9), (false, 10), (true, 11)] 12 [.reads [_, _, _, _, _, _, _, _, _, _, _], .loud _] [_, _] (by kernel_rfl) (by kernel_rfl) rfl rfl ?_ ?_
          · exact ⟨⟨_, nix_drawn wr⟩, rfl⟩
          refine wpStages_reads ?_
          repeat (go_big_quiet_step (fail))
          refine wpQuiet_nil ?_
          refine wpStages_loud rfl ?_
          intro K hK
          go_big_op
          have hbd := below_drewN (Below.refl wr.heap.size wr) 1
          refine (num_times _ _ (overZ a b j) (b d) (wr.drewN 1) (hnumO.below hbd) (hnumB.below hbd) (by have := HLO.out; omega) (by have := HLB.out; omega)).mono ?_
          rintro e w3 ⟨v3, rfl, hz3, hb3⟩
          have he3 : Ext Nix wr w3 := (nix_drawn wr).later (Ext.of_below hb3)
          refine hK _ _ ⟨⟨w3, he3⟩, rfl⟩ ?_
          clear hK K x0 x1 x2 s0 s1 s2 t0 t1 t2
          refine wpStages_nil ?_
          obtain ⟨b4, A4, l4, c4, rfl, hdum⟩ := id hz3
          clear hdum
          have HLP := Lib.hid (show (limbs (overZ a b j * b d).natAbs).length ≤ 68719476736 by
            have h1 := lc_mul (overZ a b j).natAbs (b d).natAbs
            rw [← Int.natAbs_mul] at h1
            have h2 := HLO.out
            have h3 := HLB.out
            unfold lc at h1
            omega)
          go_wp2_with fail
          refine (num_less _ _ _ _ w3 (hnumL.below he3.below) hz3 (by have := HLL.out; omega) HLP.out).mono ?_
          rintro e w4 ⟨v4, rfl, hz4, hb4⟩
          have hbx4 := (hbx.below he3.below hbx.lt).below hb4 (Nat.lt_of_lt_of_le hbx.lt he3.size)
          have hbr4 : Below wo.heap.size wo w4 := (hbr.trans (he3.below.mono hbr.size)).trans (hb4.mono (Nat.le_trans hbr.size he3.size))
          obtain ⟨b5, A6, l6, c6, rfl, hdum⟩ := id hz4
          clear hdum
          have d0 := hbx4.cell0
          have d1 := hbx4.cell1
          have d2 := hbx4.cell2
          have f0 := hbx4.free
          go_wp2_with fail
          have hst := hbx4.store (a := .bool b5) (b := .slice A6 l6 c6) (c := .int .i64 0)
          have hz5 := hz4.store3 (a := .bool b5) (b := .slice A6 l6 c6) (c := .int .i64 0) hbx4 (fun k h => by cases h) (fun k h => by cases h) (fun k h => by cases h)
          have hb5 := store3_below (a := .bool b5) (b := .slice A6 l6 c6) (c := .int .i64 0) hbr4 HB0.out
          rw [← HREF.out] at hz5
          exact ⟨⟨j + 1, b5, A6, l6, c6, by omega, by go_num, hst, hz5, hb5⟩, by simp [intOf]; omega⟩
        · obtain rfl : i = j := by omega
          obtain ⟨gb, cb, b3, u3, hv3, _, q0, q1, q2, hnumB⟩ := (hB.below hbw).at_ (j := 0) (by rw [firstZ_len]; omega)
          rw [firstZ_get _ (by omega)] at hnumB
          injection hv3 with hv31 hv32 hv33
          subst hv31 hv33
          rw [Nat.zero_mul] at q0
          rw [show 0 * 3 + 1 = 1 from rfl] at q1
          rw [show 0 * 3 + 2 = 2 from rfl] at q2
          have hn0 : (0 : Int) < (n : Int) := by omega
          have hn0N : 0 < n := by omega
          have x0 := later_cell hbx.cell0
          have x1 := later_cell hbx.cell1
          have x2 := later_cell hbx.cell2
          have t0 := later_cell q0
          have t1 := later_cell q1
          have t2 := later_cell q2
          have HLB := Lib.hid (len_of_pow hM (hb 0 (by omega)) HMl.out)
          have HLL := Lib.hid (len_of_pow2 hM (show i + 1 ≤ n + 1 by omega) (refS_small (a := a i) (o := overZ a b) (b := b) (i := i) (j := i) hM (ha i hlt) (fun k hk => hb k (by omega)) (fun k hk => overZ_small hM ha hb k (by omega)) (Nat.le_refl i)) HMl.out)
          have HREF := Lib.hid (over_ref (a := a) HU.out i)
          clear hv32 q0 q1 q2 hjlt
          go_wp2_with fail
          refine wp_region_stages (fun w' => ∃ δ : Later Nix wr, w' = δ.world) [(false, 0), (false, 1), (false, 2), (false, 3)] 4 [.reads [_, _, _, _]] [_, _] (by kernel_rfl) (by kernel_rfl) rfl rfl ?_ ?_
          · exact ⟨⟨_, nix_drawn wr⟩, rfl⟩
          refine wpStages_reads ?_
          repeat (go_big_quiet_step (fail))
          refine wpQuiet_nil ?_
          refine wpStages_nil ?_
          have hbd := below_drewN (Below.refl wr.heap.size wr) 1
          clear x0 x1 x2 t0 t1 t2
          go_wp2_with fail
          refine (num_times _ _ _ (b 0) (wr.drewN 1) (hnumL.below hbd) (hnumB.below hbd) (by have := HLL.out; omega) (by have := HLB.out; omega)).mono ?_
          rintro e w3 ⟨v3, rfl, hz3, hb3⟩
          have hb03 : Below wr.heap.size wr w3 := hbd.trans hb3
          have hbx3 := hbx.below hb03 hbx.lt
          have hbr3 : Below wo.heap.size wo w3 := hbr.trans (hb03.mono hbr.size)
          rw [HREF.out] at hz3
          obtain ⟨b5, A6, l6, c6, rfl, hdum⟩ := id hz3
          clear hdum
          have d0 := hbx3.cell0
          have d1 := hbx3.cell1
          have d2 := hbx3.cell2
          have f0 := hbx3.free
          have hst := hbx3.store (a := .bool b5) (b := .slice A6 l6 c6) (c := .int .i64 0)
          have hz5 := hz3.store3 (a := .bool b5) (b := .slice A6 l6 c6) (c := .int .i64 0) hbx3 (fun k h => by cases h) (fun k h => by cases h) (fun k h => by cases h)
          have hb5 := store3_below (a := .bool b5) (b := .slice A6 l6 c6) (c := .int .i64 0) hbr3 HB0.out
          have hbw5 := hbel.trans (hb5.mono hbel.size)
          have hrow5 := hrow.below hb5
          have HLE := Lib.hid (show (firstZ (overZ a b) i).length ≤ 1000000 by rw [firstZ_len]; omega)
          go_upto_region 11 with (fail)
          generalize ((w3.setCell ⟨B0, 0, none⟩ (.bool b5)).setCell ⟨B0, 1, none⟩ (.slice A6 l6 c6)).setCell ⟨B0, 2, none⟩ (.int .i64 0) = W5 at hst hz5 hbw5 hrow5 ⊢
          have e0 := Box3.cell0 hst
          have e1 := Box3.cell1 hst
          have e2 := Box3.cell2 hst
          clear d0 d1 d2 f0
          go_wp2_with (at_builtin; refine append_num (w0 := w) w.heap.size rfl _ _ rfl _ (firstZ (overZ a b) i) b5 (.slice A6 l6 c6) (overZ a b i) (by rfl) (by rfl) hrow5 hz5 hbw5 hbw5.size HLE.out ?_)
          intro v6 w6 hr6 hb6
          rw [← firstZ_succ] at hr6
          have hk := HK.out
          go_wp2_with fail
          go_roundg (gk - 1)
          case measure => omega
          case rel => exact ⟨i + 1, by omega, by go_num, hr6, hb6⟩
    · have hltI : (n : Int) ≤ (i : Int) := by omega
      obtain rfl : i = n := by omega
      obtain ⟨A5, c5, hv5, hc5⟩ := hrow.form
      subst hv5
      clear hk
      go_wp2_with fail
      go_ret
      exact ⟨_, rfl, hrow, hbel⟩
end Go.Proofs.Ytmnfokapdipcdaa
