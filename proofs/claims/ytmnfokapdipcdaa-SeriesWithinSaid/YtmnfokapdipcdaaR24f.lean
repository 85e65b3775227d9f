import Derived.Test.YtmnfokapdipcdaaR24e
/- The package rosetteref24: product, within, Within, Turned. -/
namespace Go.Proofs.Ytmnfokapdipcdaa
open Go.RowKit Go.Deep
theorem convS_nought {a b : Nat → Int} {j i : Nat} (h : a j = 0 ∨ b (i - j) = 0) : convS a b (j + 1) i = convS a b j i := by
  rw [convS_succ]
  split
  · rcases h with h | h <;> rw [h] <;> simp
  · omega
set_option maxHeartbeats 1000000 in
set_option maxRecDepth 100000 in
theorem r24_product (u v : Value) (n ba bb A B : Nat) (a b : Nat → Int) (w : World) (hA : NRow w ba u (firstZ a n)) (hB : NRow w bb v (firstZ b n)) (hn : n ≤ 4096)
    (hA0 : 0 < A) (hB0 : 0 < B) (hl : lc (4096 * (A * B)) ≤ 134217728) (ha : ∀ k, k < n → (a k).natAbs ≤ A) (hb : ∀ k, k < n → (b k).natAbs ≤ B) :
    Calls Try.prog 118 #[u, v] w fun e w' => ∃ v', e = .returned v' ∧ NRow w' w.heap.size v' (firstZ (mulZ a b) n) ∧ Below w.heap.size w w' := by
  obtain ⟨Au, cu, rfl, hcu⟩ := hA.form
  obtain ⟨Av, cv, rfl, hcv⟩ := hB.form
  simp only [firstZ_len] at hA hB hcu hcv ⊢
  have hnI : (n : Int) ≤ 4096 := by omega
  have HN := Lib.hid hn
  have HA := Lib.hid (fun k hk => times_len (x := (a k).natAbs) hA0 hB0 hl (ha k hk))
  have HB := Lib.hid (fun k hk => times_len2 (x := (b k).natAbs) hA0 hB0 hl (hb k hk))
  have HC := Lib.hid (fun (i j : Nat) (hi : i < n) (hj : j ≤ n) => times_len3 (x := (convS a b j i).natAbs) hl hj hn (convS_small ha hb hi j hj))
  clear hl hn hA0 hB0 ha hb
  go_enter Try.func118, Try.ntmps118
  go_wp2_with fail
  go_loopg [5, 6] n (fun gk t5 t6 wr => ∃ i : Nat, i + gk = n ∧ t6 = .int .i64 (i : Int) ∧ NRow wr w.heap.size t5 (firstZ (mulZ a b) i) ∧ Below w.heap.size w wr)
  case atStart => exact ⟨0, by omega, rfl, NRow.nil _ _, Below.refl _ _⟩
  case round =>
    obtain ⟨wo, hwo⟩ : ∃ wo : World, wo = wr := ⟨_, rfl⟩
    subst hwo
    obtain ⟨i, hk, rfl, hrow, hbel⟩ := hrel
    have HK := Lib.hid hk
    by_cases hlt : i < n
    · obtain ⟨A5, c5, hv5, hc5⟩ := hrow.form
      rw [firstZ_len] at hv5 hc5
      have hltI : (i : Int) < (n : Int) := by omega
      have HLT := Lib.hid hlt
      clear hk hc5
      subst hv5
      go_wp2_with fail
      refine (num_whole 0 wo (by omega)).mono ?_
      rintro e w1 ⟨v1, rfl, hz1, hb1⟩
      obtain ⟨b1, A1, l1, c1, rfl, hdum⟩ := id hz1
      clear hdum
      go_upto_region 6 with (fail)
      have hbx : Box3 (w1.alloc (.cells #[.bool b1, .slice A1 l1 c1, .int .i64 0] 79)) w1.heap.size 79 (.bool b1) (.slice A1 l1 c1) (.int .i64 0) := heap_alloc_new w1 _
      have hb1' : Below w1.heap.size w1 (w1.alloc (.cells #[.bool b1, .slice A1 l1 c1, .int .i64 0] 79)) := (Below.refl _ _).alloc (Nat.le_refl _) _
      have hbr0 : Below wo.heap.size wo (w1.alloc (.cells #[.bool b1, .slice A1 l1 c1, .int .i64 0] 79)) := hb1.trans (hb1'.mono hb1.size)
      have hnum0 : NumAt (w1.alloc (.cells #[.bool b1, .slice A1 l1 c1, .int .i64 0] 79)) _ (convS a b 0 i) := hz1.below hb1'
      have HB0 := Lib.hid hb1.size
      generalize w1.heap.size = B0 at hbx HB0 ⊢
      generalize w1.alloc (.cells #[.bool b1, .slice A1 l1 c1, .int .i64 0] 79) = W0 at hbx hbr0 hnum0 ⊢
      clear hz1 hb1 hb1' hlt
      go_wp2_with fail
      go_loopw [8] (fun t8 wi => ∃ (j : Nat) (bL : Bool) (AL : Option Addr) (lL cL : Nat), j ≤ i + 1 ∧ t8 = .int .i64 (j : Int) ∧ Box3 wi B0 79 (.bool bL) (.slice AL lL cL) (.int .i64 0) ∧ NumAt wi (.agg #[.bool bL, .slice AL lL cL, .int .i64 0]) (convS a b j i) ∧ Below wo.heap.size wo wi) (fun t8 _ => i + 1 - (intOf t8).toNat)
      case atStart => exact ⟨0, b1, A1, l1, c1, by omega, rfl, hbx, hnum0, hbr0⟩
      case round =>
        clear hbx hnum0 hbr0
        obtain ⟨j, bL, AL, lL, cL, hji, rfl, hbx, hnumL, hbr⟩ := hrel
        have hbw := hbel.trans (hbr.mono hbel.size)
        by_cases hjlt : j ≤ i
        · obtain ⟨ga, ca, b2, u2, hv2, _, o0, o1, o2, hnumA⟩ := (hA.below hbw).at_ (j := j) (by have := HLT.out; rw [firstZ_len]; omega)
          rw [firstZ_get _ (by have := HLT.out; omega)] at hnumA
          injection hv2 with hv21 hv22 hv23
          subst hv21 hv23
          obtain ⟨d, hd⟩ : ∃ d, i - j = d := ⟨_, rfl⟩
          obtain ⟨gb, cb, b3, u3, hv3, _, q0, q1, q2, hnumB⟩ := (hB.below hbw).at_ (j := d) (by have := HLT.out; rw [firstZ_len]; omega)
          rw [firstZ_get _ (by have := HLT.out; omega)] at hnumB
          injection hv3 with hv31 hv32 hv33
          subst hv31 hv33
          have hdI : (i : Int) - (j : Int) = (d : Int) := by omega
          have hdnN : d < n := by have := HLT.out; omega
          have hdn : (d : Int) < (n : Int) := by omega
          have hjnN : j < n := by have := HLT.out; omega
          have hjn : (j : Int) < (n : Int) := by omega
          have hjI : (j : Int) ≤ (i : Int) := by omega
          have HJ := Lib.hid hjlt
          have HD := Lib.hid hd
          clear hv22 hv32 hd hjlt hji
          go_wp2_with fail
          refine (num_zero _ (a j) wr hnumA (by have := HA.out j hjnN; omega)).mono ?_
          rintro e w2 ⟨rfl, hb2⟩
          have hbx2 := hbx.below hb2 hbx.lt
          have hbr2 : Below wo.heap.size wo w2 := hbr.trans (hb2.mono hbr.size)
          have hnumL2 := hnumL.below hb2
          by_cases ha0 : a j = 0
          · rw [decide_eq_true ha0]
            have HE := Lib.hid (convS_nought (a := a) (b := b) (j := j) (i := i) (.inl ha0))
            clear ha0
            go_wp2_with fail
            exact ⟨⟨j + 1, bL, AL, lL, cL, by have := HJ.out; omega, by go_num, hbx2, by rw [HE.out]; exact hnumL2, hbr2⟩, by have := HJ.out; simp [intOf]; omega⟩
          · rw [decide_eq_false ha0]
            clear ha0
            have hnumA2 := hnumA.below hb2
            have hnumB2 := hnumB.below hb2
            have q0 := (hb2.cell (World.block_lt_of_cell? wr _ q0)).trans q0
            have q1 := (hb2.cell (World.block_lt_of_cell? wr _ q1)).trans q1
            have q2 := (hb2.cell (World.block_lt_of_cell? wr _ q2)).trans q2
            have o0 := (hb2.cell (World.block_lt_of_cell? wr _ o0)).trans o0
            have o1 := (hb2.cell (World.block_lt_of_cell? wr _ o1)).trans o1
            have o2 := (hb2.cell (World.block_lt_of_cell? wr _ o2)).trans o2
            go_wp2_with fail
            refine (num_zero _ (b d) w2 hnumB2 (by have := HB.out d hdnN; omega)).mono ?_
            rintro e w3 ⟨rfl, hb3⟩
            have hbx3 := hbx2.below hb3 hbx2.lt
            have hbr3 : Below wo.heap.size wo w3 := hbr2.trans (hb3.mono hbr2.size)
            have hnumL3 := hnumL2.below hb3
            by_cases ha0 : b d = 0
            · rw [decide_eq_true ha0]
              have HE := Lib.hid (convS_nought (a := a) (b := b) (j := j) (i := i) (.inr (by rw [HD.out]; exact ha0)))
              clear ha0
              go_wp2_with fail
              exact ⟨⟨j + 1, bL, AL, lL, cL, by have := HJ.out; omega, by go_num, hbx3, by rw [HE.out]; exact hnumL3, hbr3⟩, by have := HJ.out; simp [intOf]; omega⟩
            · rw [decide_eq_false ha0]
              clear ha0
              have hnumA3 := hnumA2.below hb3
              have hnumB3 := hnumB2.below hb3
              have HREF := Lib.hid (show convS a b (j + 1) i = convS a b j i + a j * b d by rw [convS_succ, if_pos HJ.out, HD.out])
              have HLL := Lib.hid (HC.out i j HLT.out (by have := HN.out; omega))
              have HLA := Lib.hid (HA.out j hjnN)
              have HLB := Lib.hid (HB.out d hdnN)
              have x0 := later_cell hbx3.cell0
              have x1 := later_cell hbx3.cell1
              have x2 := later_cell hbx3.cell2
              have s0 := later_cell ((hb3.cell (World.block_lt_of_cell? w2 _ o0)).trans o0)
              have s1 := later_cell ((hb3.cell (World.block_lt_of_cell? w2 _ o1)).trans o1)
              have s2 := later_cell ((hb3.cell (World.block_lt_of_cell? w2 _ o2)).trans o2)
              have t0 := later_cell ((hb3.cell (World.block_lt_of_cell? w2 _ q0)).trans q0)
              have t1 := later_cell ((hb3.cell (World.block_lt_of_cell? w2 _ q1)).trans q1)
              have t2 := later_cell ((hb3.cell (World.block_lt_of_cell? w2 _ q2)).trans q2)
              clear q0 q1 q2 o0 o1 o2
              go_wp2_with fail
              refine wp_region_stages (fun w' => ∃ δ : Later Nix w3, w' = δ.world) [(false, 0), (false, 1), (false, 2), (false, 3), (false, 4), (false, 5), (false, 6), (false, 7), (false, 8), (false, 9), (false, 10), (true, 11)] 12 [.reads [_, _, _, _, _, _, _, _, _, _, _], .loud _] [_, _] (by kernel_rfl) (by kernel_rfl) rfl rfl ?_ ?_
              · exact ⟨⟨_, nix_drawn w3⟩, rfl⟩
              refine wpStages_reads ?_
              repeat (go_big_quiet_step (fail))
              refine wpQuiet_nil ?_
              refine wpStages_loud rfl ?_
              intro K hK
              go_big_op
              have hbd := below_drewN (Below.refl w3.heap.size w3) 1
              refine (num_times _ _ (a j) (b d) (w3.drewN 1) (hnumA3.below hbd) (hnumB3.below hbd) (by have := HLA.out; omega) (by have := HLB.out; omega)).mono ?_
              rintro e w4 ⟨v4, rfl, hz4, hb4⟩
              have he4 : Ext Nix w3 w4 := (nix_drawn w3).later (Ext.of_below hb4)
              refine hK _ _ ⟨⟨w4, he4⟩, rfl⟩ ?_
              clear hK K x0 x1 x2 s0 s1 s2 t0 t1 t2
              refine wpStages_nil ?_
              obtain ⟨b4, A4, l4, c4, rfl, hdum⟩ := id hz4
              clear hdum
              have HLP := Lib.hid (show (limbs (a j * b d).natAbs).length ≤ 68719476736 by
                have h1 := lc_mul (a j).natAbs (b d).natAbs
                rw [← Int.natAbs_mul] at h1
                have h2 := HLA.out
                have h3 := HLB.out
                unfold lc at h1
                omega)
              go_wp2_with fail
              refine (num_plus _ _ _ _ w4 (hnumL3.below he4.below) hz4 (by have := HLL.out; omega) HLP.out).mono ?_
              rintro e w5 ⟨v5, rfl, hz5, hb5⟩
              have hbx5 := (hbx3.below he4.below hbx3.lt).below hb5 (Nat.lt_of_lt_of_le hbx3.lt he4.size)
              have hbr5 : Below wo.heap.size wo w5 := (hbr3.trans (he4.below.mono hbr3.size)).trans (hb5.mono (Nat.le_trans hbr3.size he4.size))
              obtain ⟨b6, A6, l6, c6, rfl, hdum⟩ := id hz5
              clear hdum
              have d0 := hbx5.cell0
              have d1 := hbx5.cell1
              have d2 := hbx5.cell2
              have f0 := hbx5.free
              go_wp2_with fail
              have hst := hbx5.store (a := .bool b6) (b := .slice A6 l6 c6) (c := .int .i64 0)
              have hz6 := hz5.store3 (a := .bool b6) (b := .slice A6 l6 c6) (c := .int .i64 0) hbx5 (fun k h => by cases h) (fun k h => by cases h) (fun k h => by cases h)
              have hb6 := store3_below (a := .bool b6) (b := .slice A6 l6 c6) (c := .int .i64 0) hbr5 HB0.out
              rw [← HREF.out] at hz6
              exact ⟨⟨j + 1, b6, A6, l6, c6, by have := HJ.out; omega, by go_num, hst, hz6, hb6⟩, by have := HJ.out; simp [intOf]; omega⟩
        · obtain rfl : j = i + 1 := by omega
          have hjI : (i : Int) < ((i + 1 : Nat) : Int) := by omega
          have hrow5 := hrow.below hbr
          have HLE := Lib.hid (show (firstZ (mulZ a b) i).length ≤ 1000000 by have := HN.out; have := HLT.out; rw [firstZ_len]; omega)
          have e0 := hbx.cell0
          have e1 := hbx.cell1
          have e2 := hbx.cell2
          clear hji hjlt
          go_wp2_with (at_builtin; refine append_num (w0 := w) w.heap.size rfl _ _ rfl _ (firstZ (mulZ a b) i) bL (.slice AL lL cL) (mulZ a b i) (by rfl) (by rfl) hrow5 hnumL hbw hbw.size HLE.out ?_)
          intro v6 w6 hr6 hb6
          rw [← firstZ_succ] at hr6
          have hk := HK.out
          go_wp2_with fail
          go_roundg (gk - 1)
          case measure => omega
          case rel => exact ⟨i + 1, by omega, by go_num, hr6, hb6⟩
    · have hltI : (n : Int) ≤ (i : Int) := by omega
      obtain rfl : i = n := by omega
      obtain ⟨A5, c5, hv5, hc5⟩ := hrow.form
      subst hv5
      clear hk
      go_wp2_with fail
      go_ret
      exact ⟨_, rfl, hrow, hbel⟩
end Go.Proofs.Ytmnfokapdipcdaa
