import Derived.Test.YtmnfokapdipcdaaLaw18b
import Derived.Test.YtmnfokapdipcdaaLaw18c
import Derived.Test.YtmnfokapdipcdaaTimes2
import Derived.Test.YtmnfokapdipcdaaLaw24b
import Derived.Test.YtmnfokapdipcdaaPlan2
/- The laws of layer 18 without the reference: known, RootRises. -/
namespace Go.Proofs.Ytmnfokapdipcdaa
open Go.RowKit Go.Deep
set_option maxHeartbeats 1000000 in
set_option maxRecDepth 100000 in
theorem law18_known (v : Value) (x : Raw) (w : World) (h : RawV w v x) :
    Calls Try.prog 42 #[v] w fun e w' => ∃ u z, e = .returned u ∧ IntV w' u z ∧ lc z.natAbs ≤ 12 ∧ Below w.heap.size w w' := by
  obtain ⟨b, A, l, c, rfl, HV⟩ := h.open
  obtain ⟨xb, xs⟩ := x
  have HP := Lib.hid HV.out.parts
  obtain rfl : b = xb := HP.out.1
  clear h
  go_enter Try.func42, Try.ntmps42
  go_wp2_with fail
  obtain ⟨W1, g, r, hW, hg, hr, bx, br, G_g, S_W1, hb⟩ := boxH2 w (.bool b) (.slice A l c) (.bool false) (.slice none 0 0)
  rw [hW, hr, hg]
  replace HV := Lib.hid (HV.out.stay hb)
  have B_W1 := Lib.hid (show Since w W1 from hb)
  clear hW hg hr hb
  have HB := Lib.hid B_W1.out
  have HGR := Lib.hid (show w.heap.size ≤ r by have := G_g.out; omega)
  refine (limb_right b A l c xs W1 (Nat.le_refl _) HV.out.parts.2.2.2 HP.out.2.1).mono ?_
  rintro e w2 ⟨rfl, hb⟩
  replace HV := Lib.hid (HV.out.stay hb)
  replace HB := Lib.hid (HB.out.stay hb)
  replace bx := Lib.hid (bx.out.stay hb)
  replace br := Lib.hid (br.out.stay hb)
  clear hb
  have a0 := bx.out.cell0
  have a1 := bx.out.cell1
  have q0 := br.out.cell0
  have q1 := br.out.cell1
  have f0 := br.out.free 0
  have f1 := br.out.free 1
  have h10 := raw_small (x := 10) (by decide) (by rw [W64_eq]; decide)
  rcases hr : rightInt (b, xs) with _ | _
  · clear hr
    go_wp2_with fail
    refine (law18_whole false 10 _ (by rw [W64_eq]; omega)).mono ?_
    rintro e w3 ⟨u, rfl, hu, hb⟩
    obtain ⟨b3, A3, l3, c3, rfl, HU⟩ := hu.open
    clear hu a0 a1 q0 q1 f0 f1
    replace HB := Lib.hid (HB.out.stay hb)
    replace bx := Lib.hid (bx.out.stay hb)
    replace br := Lib.hid (br.out.stay hb)
    clear hb
    have q0 := br.out.cell0
    have q1 := br.out.cell1
    have f0 := br.out.free 0
    have f1 := br.out.free 1
    go_wp2_with fail
    refine bodyPost_ret (results_cell_row rfl _ _ r 36 #[.bool b3, (.slice A3 l3 c3)] (0, 0) _ (by rfl) br.out.store Try.underlying36 rfl (by kernel_rfl)) rfl ?_
    obtain ⟨W5, hW5, -, p5⟩ := br.out.write (.bool b3) (.slice A3 l3 c3)
    rw [hW5]
    have h3 : RawV w3 (.agg #[.bool b3, .slice A3 l3 c3]) (rawOf 10) := by rw [h10]; exact HU.out
    exact ⟨_, 10, rfl, (h3.put p5).int, Nat.le_trans (lc_limb (by rw [W64_eq]; decide)) (by omega), HB.out.put p5 HGR.out⟩
  · by_cases hlen : l ≤ 12
    · obtain ⟨z, hz, hlc, -⟩ := right_int_of (b := b) (xs := xs) HV.out.parts.2.2.2.small hr
      have HF := Lib.hid (And.intro hz (show lc z.natAbs ≤ 12 by have h5 : l = xs.length := HP.out.2.1; omega))
      have hlI : (l : Int) ≤ 12 := by omega
      clear hr hz hlc hlen
      go_wp2_with fail
      refine bodyPost_ret (results_cell_row rfl _ _ r 36 #[.bool b, (.slice A l c)] (0, 0) _ (by rfl) br.out.store Try.underlying36 rfl (by kernel_rfl)) rfl ?_
      have h3 : RawV w2 (.agg #[.bool b, .slice A l c]) (rawOf z) := by rw [← HF.out.1]; exact HV.out
      obtain ⟨W5, hW5, -, p5⟩ := br.out.write (.bool b) (.slice A l c)
      rw [hW5]
      exact ⟨_, z, rfl, (h3.put p5).int, HF.out.2, HB.out.put p5 HGR.out⟩
    · have hlI : ¬ (l : Int) ≤ 12 := by omega
      clear hr hlen
      go_wp2_with fail
      refine (law18_whole false 10 _ (by rw [W64_eq]; omega)).mono ?_
      rintro e w3 ⟨u, rfl, hu, hb⟩
      obtain ⟨b3, A3, l3, c3, rfl, HU⟩ := hu.open
      clear hu a0 a1 q0 q1 f0 f1
      replace HB := Lib.hid (HB.out.stay hb)
      replace bx := Lib.hid (bx.out.stay hb)
      replace br := Lib.hid (br.out.stay hb)
      clear hb
      have q0 := br.out.cell0
      have q1 := br.out.cell1
      have f0 := br.out.free 0
      have f1 := br.out.free 1
      go_wp2_with fail
      refine bodyPost_ret (results_cell_row rfl _ _ r 36 #[.bool b3, (.slice A3 l3 c3)] (0, 0) _ (by rfl) br.out.store Try.underlying36 rfl (by kernel_rfl)) rfl ?_
      obtain ⟨W5, hW5, -, p5⟩ := br.out.write (.bool b3) (.slice A3 l3 c3)
      rw [hW5]
      have h3 : RawV w3 (.agg #[.bool b3, .slice A3 l3 c3]) (rawOf 10) := by rw [h10]; exact HU.out
      exact ⟨_, 10, rfl, (h3.put p5).int, Nat.le_trans (lc_limb (by rw [W64_eq]; decide)) (by omega), HB.out.put p5 HGR.out⟩
theorem IntV.abs {w : World} {s : Bool} {A : Option Addr} {l c : Nat} {z : Int} (h : IntV w (.agg #[.bool s, .slice A l c]) z) : IntV w (.agg #[.bool false, .slice A l c]) (z.natAbs : Int) := by
  obtain ⟨h1, h2, h3, h4⟩ := h.parts
  exact ⟨A, l, c, by rw [decide_eq_false (by omega)], by rw [Int.natAbs_natCast]; exact h2, h3, by rw [Int.natAbs_natCast]; exact h4⟩
theorem cmp_three (x y u v : Int) (h1 : x ≤ y → u ≤ v) (h2 : y ≤ x → v ≤ u) : (cmpZ x y < 0 ∧ cmpZ u v ≤ 0) ∨ (cmpZ x y = 0 ∧ cmpZ u v = 0) ∨ (0 < cmpZ x y ∧ 0 ≤ cmpZ u v) := by
  unfold cmpZ
  rcases Int.lt_trichotomy x y with h | h | h
  · have := h1 (by omega)
    left; rw [if_pos h]
    split
    · omega
    · rw [if_neg (by omega)]; omega
  · have := h1 (by omega)
    have := h2 (by omega)
    right; left
    rw [if_neg (by omega), if_neg (by omega), if_neg (by omega), if_neg (by omega)]
    omega
  · have := h2 (by omega)
    right; right
    rw [if_neg (by omega), if_pos h, if_neg (by omega)]
    split <;> omega
theorem kit_raw (u v : Value) (x y : Raw) (w : World) (hu : RawV w u x) (hv : RawV w v y) (hl : x.2.length ≤ 1099511627776) :
    Calls Try.prog 46 #[u, v] w fun e w' => e = .returned (.bool (decide (x = y))) ∧ Below w.heap.size w w' := by
  obtain ⟨A1, l1, c1, rfl, e1, _, h1⟩ := hu
  obtain ⟨A2, l2, c2, rfl, e2, _, h2⟩ := hv
  exact kit_int x.1 y.1 A1 A2 l1 l2 c1 c2 x.2 y.2 w (Nat.le_refl _) (Nat.le_refl _) h1 h2 e1 e2 (by omega)
theorem raw_one : rawOf 1 = (false, [1]) := raw_small (by decide) (by rw [W64_eq]; decide)
set_option maxHeartbeats 4000000 in
set_option maxRecDepth 100000 in
theorem law_RootRises (b1 : Bool) (A1 : Option Addr) (l1 c1 : Nat) (xs1 : List Nat) (b2 : Bool) (A2 : Option Addr) (l2 c2 : Nat) (xs2 : List Nat) (n : Int) (w : World) (h1 : Lim w w.heap.size A1 xs1) (e1 : l1 = xs1.length) (k1 : l1 ≤ c1) (h2 : Lim w w.heap.size A2 xs2) (e2 : l2 = xs2.length) (k2 : l2 ≤ c2) :
    Calls Try.prog 11 #[.agg #[.bool b1, .slice A1 l1 c1], .agg #[.bool b2, .slice A2 l2 c2], .int .i64 n] w fun o w' => o = .returned (.bool true) ∧ Below w.heap.size w w' := by
  have HV1 : Hid (RawV w (.agg #[.bool b1, .slice A1 l1 c1]) (b1, xs1)) := Lib.hid ⟨A1, l1, c1, rfl, e1, k1, h1⟩
  have HV2 : Hid (RawV w (.agg #[.bool b2, .slice A2 l2 c2]) (b2, xs2)) := Lib.hid ⟨A2, l2, c2, rfl, e2, k2, h2⟩
  clear h1 e1 k1 h2 e2 k2
  have hrk : ∃ k : Nat, 1 ≤ k ∧ k ≤ 12 ∧ 1 + n % ((12 : Nat) : Int) = (k : Int) := ⟨(1 + n % 12).toNat, by omega, by omega, by omega⟩
  obtain ⟨k, hk1, hk12, hk⟩ := hrk
  go_enter Try.func11, Try.ntmps11
  go_wp2_with fail
  obtain ⟨W1, ga, gb, hW, hg, hr, ba, bb, G_ga, S_W1, hb⟩ := boxH2 w (.bool b1) (.slice A1 l1 c1) (.bool b2) (.slice A2 l2 c2)
  rw [hW, hr, hg]
  replace HV1 := Lib.hid (HV1.out.stay hb)
  replace HV2 := Lib.hid (HV2.out.stay hb)
  have B_W1 := Lib.hid (show Since w W1 from hb)
  clear hW hg hr hb
  have HB := Lib.hid B_W1.out
  have HGA := Lib.hid (show w.heap.size ≤ ga ∧ w.heap.size ≤ gb ∧ ga ≠ gb by have := G_ga.out; omega)
  refine (law18_awake W1).mono ?_
  rintro e w2 ⟨rfl, hb⟩
  replace HV1 := Lib.hid (HV1.out.stay hb)
  replace HV2 := Lib.hid (HV2.out.stay hb)
  replace HB := Lib.hid (HB.out.stay hb)
  replace ba := Lib.hid (ba.out.stay hb)
  replace bb := Lib.hid (bb.out.stay hb)
  clear hb B_W1 G_ga S_W1
  go_upto_region 3 with (fail)
  have r0 := later_cell ba.out.cell0
  have r1 := later_cell ba.out.cell1
  have q0 := later_cell bb.out.cell0
  have q1 := later_cell bb.out.cell1
  refine wp_region_stages (fun w' => ∃ δ : Later Nix w2, w' = δ.world) [(false, 0), (false, 2), (true, 1), (true, 3)] 4 [.reads [_, _], .loud _, .loud _] [_, _] (by kernel_rfl) (by kernel_rfl) rfl rfl ?_ ?_
  · exact ⟨⟨_, nix_drawn w2⟩, rfl⟩
  refine wpStages_reads ?_
  repeat (go_big_quiet_step (fail))
  refine wpQuiet_nil ?_
  refine wpStages_loud rfl ?_
  intro K hK
  go_big_op
  have ex : Ext Nix w2 (w2.drewN 1) := nix_drawn w2
  have hb : Below w2.heap.size w2 (w2.drewN 1) := below_drewN (Below.refl _ _) 1
  replace HV1 := Lib.hid (HV1.out.stay hb)
  replace HV2 := Lib.hid (HV2.out.stay hb)
  replace HB := Lib.hid (HB.out.stay hb)
  replace ba := Lib.hid (ba.out.stay hb)
  replace bb := Lib.hid (bb.out.stay hb)
  clear hb
  refine ((law18_known _ _ _ HV1.out)).mono ?_
  rintro e w3 ⟨u1, z1, rfl, hz1, hl1, hb⟩
  replace ex : Ext Nix w2 w3 := ex.later (Ext.of_below hb)
  replace HV2 := Lib.hid (HV2.out.stay hb)
  replace HB := Lib.hid (HB.out.stay hb)
  replace ba := Lib.hid (ba.out.stay hb)
  replace bb := Lib.hid (bb.out.stay hb)
  clear hb
  refine hK _ _ ⟨⟨_, ex⟩, rfl⟩ ?_
  clear hK K
  have HZ1 := Lib.hid hz1
  have HLZ1 := Lib.hid hl1
  clear hz1 hl1
  refine wpStages_loud rfl ?_
  intro K hK
  go_big_op
  refine ((law18_known _ _ _ HV2.out)).mono ?_
  rintro e w4 ⟨u2, z2, rfl, hz2, hl2, hb⟩
  replace ex : Ext Nix w2 w4 := ex.later (Ext.of_below hb)
  replace HZ1 := Lib.hid (HZ1.out.stay hb)
  replace HB := Lib.hid (HB.out.stay hb)
  replace ba := Lib.hid (ba.out.stay hb)
  replace bb := Lib.hid (bb.out.stay hb)
  clear hb
  refine hK _ _ ⟨⟨_, ex⟩, rfl⟩ ?_
  clear hK K
  have HZ2 := Lib.hid hz2
  have HLZ2 := Lib.hid hl2
  clear hz2 hl2
  refine wpStages_nil ?_
  obtain ⟨s1, B1, m1, d1, rfl, HU1⟩ := HZ1.out.open
  obtain ⟨s2, B2, m2, d2, rfl, HU2⟩ := HZ2.out.open
  have a0 := ba.out.cell0
  have a1 := ba.out.cell1
  have o0 := bb.out.cell0
  have o1 := bb.out.cell1
  have fa := ba.out.free
  have fb := bb.out.free
  have hne1 : ¬ ga = gb := HGA.out.2.2
  have hne2 : ¬ gb = ga := HGA.out.2.2.symm
  clear HZ1 HZ2 r0 r1 q0 q1 ex
  go_upto_region 4 with (fail)
  obtain ⟨W5, hW5, ba5, p5⟩ := ba.out.write (.bool s1) (.slice B1 m1 d1)
  rw [hW5]
  replace HB := Lib.hid (HB.out.put p5 HGA.out.1)
  replace bb := Lib.hid (bb.out.put p5 HGA.out.2.2.symm)
  replace HU1 := Lib.hid (HU1.out.put p5)
  replace HU2 := Lib.hid (HU2.out.put p5)
  obtain ⟨W6, hW6, bb6, p6⟩ := bb.out.write (.bool s2) (.slice B2 m2 d2)
  rw [hW6]
  replace HB := Lib.hid (HB.out.put p6 HGA.out.2.1)
  replace ba5 := Lib.hid (ba5.out.put p6 HGA.out.2.2)
  replace HU1 := Lib.hid (HU1.out.put p6)
  replace HU2 := Lib.hid (HU2.out.put p6)
  clear hW5 hW6 p5 p6 ba bb fa fb a0 a1 o0 o1
  go_wp2_with fail
  refine (kit_pick n 12 W6 (by omega) (by omega)).mono ?_
  rintro e w7 ⟨rfl, rfl⟩
  go_upto_region 5 with (fail)
  have hk' : 1 + n % 12 = (k : Int) := hk
  rw [hk']
  have HKE := Lib.hid (And.intro hk1 hk12)
  have hkI : (k : Int) ≤ 12 := by omega
  have hkI1 : 1 ≤ (k : Int) := by omega
  clear hk hk' hk1 hk12
  have fa := ba5.out.free
  have fb := bb6.out.free
  have a0 := ba5.out.cell0
  have a1 := ba5.out.cell1
  have o0 := bb6.out.cell0
  have o1 := bb6.out.cell1
  rcases Nat.mod_two_eq_zero_or_one k with he | he
  · have hev : ((k : Int) % 2 == 0) = true := by rw [beq_iff_eq]; omega
    have HE := Lib.hid he
    clear he
    go_upto_region 7 with (fail)
    obtain ⟨W8, hW8, ba8, p8⟩ := ba5.out.write0 (.bool false)
    rw [hW8]
    replace HB := Lib.hid (HB.out.put p8 HGA.out.1)
    replace bb6 := Lib.hid (bb6.out.put p8 HGA.out.2.2.symm)
    replace HU1 := Lib.hid (HU1.out.put p8)
    replace HU2 := Lib.hid (HU2.out.put p8)
    obtain ⟨W9, hW9, bb9, p9⟩ := bb6.out.write0 (.bool false)
    rw [hW9]
    replace HB := Lib.hid (HB.out.put p9 HGA.out.2.1)
    replace ba8 := Lib.hid (ba8.out.put p9 HGA.out.2.2)
    replace HU1 := Lib.hid (HU1.out.put p9)
    replace HU2 := Lib.hid (HU2.out.put p9)
    replace HU1 := Lib.hid HU1.out.abs
    replace HU2 := Lib.hid HU2.out.abs
    clear hW8 hW9 p8 p9 ba5 bb6 fa fb a0 a1 o0 o1
    have HO1 := Lib.hid (fun (h : ((z1.natAbs : Nat) : Int) < 0) => (show k % 2 = 1 by omega))
    have HO2 := Lib.hid (fun (h : ((z2.natAbs : Nat) : Int) < 0) => (show k % 2 = 1 by omega))
    have HLA := Lib.hid (show lc ((z1.natAbs : Nat) : Int).natAbs ≤ 12 by rw [Int.natAbs_natCast]; exact HLZ1.out)
    have HLB := Lib.hid (show lc ((z2.natAbs : Nat) : Int).natAbs ≤ 12 by rw [Int.natAbs_natCast]; exact HLZ2.out)
    obtain ⟨ZA, hZA⟩ : ∃ Z : Int, ((z1.natAbs : Nat) : Int) = Z := ⟨_, rfl⟩
    obtain ⟨ZB, hZB⟩ : ∃ Z : Int, ((z2.natAbs : Nat) : Int) = Z := ⟨_, rfl⟩
    rw [hZA] at HU1 HO1 HLA
    rw [hZB] at HU2 HO2 HLB
    clear hZA hZB
    have a0 := ba8.out.cell0
    have a1 := ba8.out.cell1
    have o0 := bb9.out.cell0
    have o1 := bb9.out.cell1
    go_wp2_with fail
    refine (limb_Cmp _ _ ZA ZB _ HU1.out HU2.out (by have := HLA.out; omega) (by have := HLB.out; omega)).mono ?_
    rintro e w10 ⟨rfl, hb⟩
    clear a0 a1 o0 o1
    replace HU1 := Lib.hid (HU1.out.stay hb)
    replace HU2 := Lib.hid (HU2.out.stay hb)
    replace HB := Lib.hid (HB.out.stay hb)
    replace ba8 := Lib.hid (ba8.out.stay hb)
    replace bb9 := Lib.hid (bb9.out.stay hb)
    clear hb
    obtain ⟨cc, hcc⟩ : ∃ cc, cmpZ ZA ZB = cc := ⟨_, rfl⟩
    rw [hcc]
    have HCC := Lib.hid hcc
    clear hcc
    have a0 := ba8.out.cell0
    have a1 := ba8.out.cell1
    go_wp2_with fail
    refine (root_Of _ ZA k w10 HU1.out (by have := HLA.out; omega) HKE.out.1 (by have := HKE.out.2; omega) HO1.out).mono ?_
    rintro e w11 ⟨ux, rfl, hx, hb⟩
    obtain ⟨bx, Ax, lx, cx, rfl, HX⟩ := hx.open
    clear hx a0 a1
    replace HU1 := Lib.hid (HU1.out.stay hb)
    replace HU2 := Lib.hid (HU2.out.stay hb)
    replace HB := Lib.hid (HB.out.stay hb)
    replace ba8 := Lib.hid (ba8.out.stay hb)
    replace bb9 := Lib.hid (bb9.out.stay hb)
    clear hb
    replace HX := Lib.hid HX.out.int
    go_upto_region 9 with (fail)
    obtain ⟨W12, gx, hW, hg, bxx, G_gx, S_W12, hb⟩ := boxH w11 (.bool bx) (.slice Ax lx cx)
    rw [hW, hg]
    replace HU1 := Lib.hid (HU1.out.stay hb)
    replace HU2 := Lib.hid (HU2.out.stay hb)
    replace HB := Lib.hid (HB.out.stay hb)
    replace HX := Lib.hid (HX.out.stay hb)
    replace ba8 := Lib.hid (ba8.out.stay hb)
    replace bb9 := Lib.hid (bb9.out.stay hb)
    have B_W12 := Lib.hid (show Since w11 W12 from hb)
    clear hW hg hb
    have a0 := bb9.out.cell0
    have a1 := bb9.out.cell1
    go_wp2_with fail
    refine (root_Of _ ZB k W12 HU2.out (by have := HLB.out; omega) HKE.out.1 (by have := HKE.out.2; omega) HO2.out).mono ?_
    rintro e w13 ⟨uy, rfl, hy, hb⟩
    obtain ⟨by_, Ay, ly, cy, rfl, HY⟩ := hy.open
    clear hy a0 a1 B_W12 S_W12 G_gx
    replace HU1 := Lib.hid (HU1.out.stay hb)
    replace HB := Lib.hid (HB.out.stay hb)
    replace HX := Lib.hid (HX.out.stay hb)
    replace ba8 := Lib.hid (ba8.out.stay hb)
    replace bxx := Lib.hid (bxx.out.stay hb)
    clear hb
    replace HY := Lib.hid HY.out.int
    go_upto_region 10 with (fail)
    obtain ⟨W14, gy, hW, hg, byy, G_gy, S_W14, hb⟩ := boxH w13 (.bool by_) (.slice Ay ly cy)
    rw [hW, hg]
    replace HU1 := Lib.hid (HU1.out.stay hb)
    replace HB := Lib.hid (HB.out.stay hb)
    replace HX := Lib.hid (HX.out.stay hb)
    replace HY := Lib.hid (HY.out.stay hb)
    replace ba8 := Lib.hid (ba8.out.stay hb)
    replace bxx := Lib.hid (bxx.out.stay hb)
    have B_W14 := Lib.hid (show Since w13 W14 from hb)
    clear hW hg hb
    clear G_gy S_W14 B_W14
    have HLX := Lib.hid (show lc (rootZ k ZA).natAbs ≤ 12 from Nat.le_trans (lc_mono (rootZ_le HKE.out.1)) HLA.out)
    have HLY := Lib.hid (show lc (rootZ k ZB).natAbs ≤ 12 from Nat.le_trans (lc_mono (rootZ_le HKE.out.1)) HLB.out)
    have a0 := bxx.out.cell0
    have a1 := bxx.out.cell1
    have o0 := byy.out.cell0
    have o1 := byy.out.cell1
    go_wp2_with fail
    refine (limb_Cmp _ _ _ _ W14 HX.out HY.out (by have := HLX.out; omega) (by have := HLY.out; omega)).mono ?_
    rintro e w15 ⟨rfl, hb⟩
    clear a0 a1 o0 o1 HY byy
    replace HU1 := Lib.hid (HU1.out.stay hb)
    replace HX := Lib.hid (HX.out.stay hb)
    replace HB := Lib.hid (HB.out.stay hb)
    replace ba8 := Lib.hid (ba8.out.stay hb)
    replace bxx := Lib.hid (bxx.out.stay hb)
    clear hb
    have h3 := cmp_three ZA ZB (rootZ k ZA) (rootZ k ZB) (fun h => rootZ_mono HKE.out.1 h) (fun h => rootZ_mono HKE.out.1 h)
    rw [HCC.out] at h3
    obtain ⟨dd, hdd⟩ : ∃ dd, cmpZ (rootZ k ZA) (rootZ k ZB) = dd := ⟨_, rfl⟩
    rw [hdd] at h3 ⊢
    clear hdd HCC
    rcases h3 with ⟨h31, h32⟩ | ⟨h31, h32⟩ | ⟨h31, h32⟩
    · have h33 : cc ≤ 0 := by omega
      have h34 : ¬ 0 ≤ cc := by omega
      have h35 : ¬ 0 < dd := by omega
      clear h31 h32
      go_upto_region 13 with (fail)
      have HLS := Lib.hid (show lc (ZA + 1).natAbs ≤ 13 by
        have h1 := lc_add (ZA).natAbs 1
        have h2 := lc_mono (show (ZA + 1).natAbs ≤ (ZA).natAbs + 1 by omega)
        have h3 := lc_limb (x := 1) (by rw [W64_eq]; omega)
        have := HLA.out
        omega)
      go_cut [15, 16] (fun t15 t16 wx => ∃ (g18 : Nat) (b17 : Bool) (A17 : Option Addr) (l17 c17 : Nat), t15 = .pointer (some ⟨g18, 0, none⟩) ∧ t16 = .int .i64 0 ∧ Hid (Box2 wx g18 (.bool b17) (.slice A17 l17 c17)) ∧ Hid (IntV wx (.agg #[.bool b17, .slice A17 l17 c17]) (ZA + 1)) ∧ Hid (IntV wx (.agg #[.bool bx, .slice Ax lx cx]) (rootZ k ZA)) ∧ Hid (Since w wx) ∧ Hid (Box2 wx gx (.bool bx) (.slice Ax lx cx)))
      case first =>
        have r0 := later_cell ba8.out.cell0
        have r1 := later_cell ba8.out.cell1
        refine wp_region_forks (fun w' => ∃ δ : Later Nix w15, w' = δ.world) (.read 0 (.both 1 (.both 2 (.read 3 (.read 4 (.read 5 (.loud 6 (.loud 7 .done))))) 6 (.loud 2 (.read 3 (.read 4 (.read 5 (.loud 7 .done)))))) 6 (.loud 1 (.loud 2 (.read 3 (.read 4 (.read 5 (.loud 7 .done)))))))) 8 (.read _ (.both _ (.both _ (.read _ (.read _ (.read _ (.loud _ (.loud _ .done))))) _ (.loud _ (.read _ (.read _ (.read _ (.loud _ .done)))))) _ (.loud _ (.loud _ (.read _ (.read _ (.read _ (.loud _ .done)))))))) [_] (by kernel_rfl) (by kernel_rfl) rfl rfl ?_ ?_
        · exact ⟨⟨_, nix_drawn w15⟩, rfl⟩
        repeat (refine wpTree_read ?_; go_big_quiet_step (fail); refine wpQuiet_nil ?_)
        have ex : Ext Nix w15 (w15.drewN 1) := nix_drawn w15
        have L_bxx := Lib.hid bxx.out.lt
        have H0_w15 := Lib.hid HB.out.size
        have hb : Below w15.heap.size w15 (w15.drewN 1) := below_drewN (Below.refl _ _) 1
        replace HB := Lib.hid (HB.out.stay hb)
        replace HU1 := Lib.hid (HU1.out.stay hb)
        replace HX := Lib.hid (HX.out.stay hb)
        replace bxx := Lib.hid (bxx.out.stay hb)
        clear hb
        refine wpTree_both rfl rfl ?_ ?_
        · intro K hK
          go_big_op
          refine (law18_whole false 1 _ (by rw [W64_eq]; omega)).mono ?_
          rintro e w16 ⟨u16, rfl, h16, hb⟩
          replace ex : Ext Nix w15 w16 := ex.later (Ext.of_below hb)
          replace HU1 := Lib.hid (HU1.out.stay hb)
          replace HX := Lib.hid (HX.out.stay hb)
          replace HB := Lib.hid (HB.out.stay hb)
          replace bxx := Lib.hid (bxx.out.stay hb)
          have HHA := Lib.hid hb
          clear hb
          rw [← raw_one] at h16
          have HO := Lib.hid h16.int
          clear h16
          refine hK _ _ ⟨⟨_, ex⟩, rfl⟩ ?_
          clear hK K
          refine wpTree_both rfl rfl ?_ ?_
          · intro K hK
            go_big_op
            refine (limb_Add _ _ ZA 1 w16 HU1.out HO.out (by have := HLA.out; omega) (Nat.le_trans (lc_limb (by rw [W64_eq]; decide)) (by omega))).mono ?_
            rintro e w17 ⟨u17, rfl, h17, hb⟩
            replace ex : Ext Nix w15 w17 := ex.later (Ext.of_below hb)
            replace HX := Lib.hid (HX.out.stay hb)
            replace HB := Lib.hid (HB.out.stay hb)
            replace bxx := Lib.hid (bxx.out.stay hb)
            have HHB := Lib.hid hb
            clear hb HU1 HO
            rw [longR_ok (by have := HLS.out; omega)] at h17
            obtain ⟨b17, A17, l17, c17, rfl, H17⟩ := h17.open
            replace H17 := Lib.hid H17.out.int
            clear h17
            rw [longE_ok (by have := HLS.out; omega)]
            refine hK _ _ ⟨⟨_, ex⟩, rfl⟩ ?_
            clear hK K
            repeat (refine wpTree_read ?_; go_big_quiet_step (fail); refine wpQuiet_nil ?_)
            refine wpTree_loud rfl ?_
            intro K hK
            go_big_op
            obtain ⟨W18, g18, hW, hg, b18x, G_g18, S_W18, hb⟩ := boxH w17 (.bool false) (.slice none 0 0)
            first
            | rw [hW, hg]
            | (have hg' : (w15).heap.size = g18 := hg
               rw [hW, hg'])
            have HG_g18 := Lib.hid (show (w15).heap.size ≤ g18 by have h1 := ex.size; have h2 := G_g18.out; omega)
            replace ex : Ext Nix w15 W18 := ex.later (Ext.of_below hb)
            replace HB := Lib.hid (HB.out.stay hb)
            replace HX := Lib.hid (HX.out.stay hb)
            replace H17 := Lib.hid (H17.out.stay hb)
            replace bxx := Lib.hid (bxx.out.stay hb)
            clear hW hg hb G_g18 S_W18
            refine hK _ _ ⟨⟨_, ex⟩, rfl⟩ ?_
            clear hK K
            refine wpTree_loud rfl ?_
            intro K hK
            have d0 := b18x.out.cell0
            have d1 := b18x.out.cell1
            have fr := b18x.out.free
            go_big_op
            clear d0 d1 fr
            obtain ⟨W19, hW, bz', p⟩ := b18x.out.write (.bool b17) (.slice A17 l17 c17)
            rw [hW]
            replace ex : Ext Nix w15 W19 := ex.hidden p.ext HG_g18.out
            replace b18x := bz'
            replace HX := Lib.hid (HX.out.put p)
            replace H17 := Lib.hid (H17.out.put p)
            replace bxx := Lib.hid (bxx.out.put p (Nat.ne_of_lt (Nat.lt_of_lt_of_le L_bxx.out HG_g18.out)))
            replace HB := Lib.hid (HB.out.put p (Nat.le_trans H0_w15.out HG_g18.out))
            clear hW p
            refine hK _ _ ⟨⟨_, ex⟩, rfl⟩ ?_
            clear hK K
            refine wpTree_done ?_
            go_wp2_with fail
            go_meet
            exact ⟨g18, b17, A17, l17, c17, rfl, rfl, b18x, H17, HX, HB, bxx⟩
          · intro K hK
            go_big_op
            obtain ⟨W18, g18, hW, hg, b18x, G_g18, S_W18, hb⟩ := boxH w16 (.bool false) (.slice none 0 0)
            first
            | rw [hW, hg]
            | (have hg' : (w15).heap.size = g18 := hg
               rw [hW, hg'])
            have HG_g18 := Lib.hid (show (w15).heap.size ≤ g18 by have h1 := ex.size; have h2 := G_g18.out; omega)
            replace ex : Ext Nix w15 W18 := ex.later (Ext.of_below hb)
            replace HB := Lib.hid (HB.out.stay hb)
            replace HX := Lib.hid (HX.out.stay hb)
            replace HU1 := Lib.hid (HU1.out.stay hb)
            replace HO := Lib.hid (HO.out.stay hb)
            replace bxx := Lib.hid (bxx.out.stay hb)
            clear hW hg hb G_g18 S_W18
            refine hK _ _ ⟨⟨_, ex⟩, rfl⟩ ?_
            clear hK K
            refine wpTree_loud rfl ?_
            intro K hK
            go_big_op
            refine (limb_Add _ _ ZA 1 W18 HU1.out HO.out (by have := HLA.out; omega) (Nat.le_trans (lc_limb (by rw [W64_eq]; decide)) (by omega))).mono ?_
            rintro e w17 ⟨u17, rfl, h17, hb⟩
            replace ex : Ext Nix w15 w17 := ex.later (Ext.of_below hb)
            replace HX := Lib.hid (HX.out.stay hb)
            replace HB := Lib.hid (HB.out.stay hb)
            replace bxx := Lib.hid (bxx.out.stay hb)
            have HHB := Lib.hid hb
            clear hb HU1 HO
            rw [longR_ok (by have := HLS.out; omega)] at h17
            obtain ⟨b17, A17, l17, c17, rfl, H17⟩ := h17.open
            replace H17 := Lib.hid H17.out.int
            clear h17
            rw [longE_ok (by have := HLS.out; omega)]
            refine hK _ _ ⟨⟨_, ex⟩, rfl⟩ ?_
            clear hK K
            replace b18x := Lib.hid (b18x.out.stay HHB.out)
            repeat (refine wpTree_read ?_; go_big_quiet_step (fail); refine wpQuiet_nil ?_)
            refine wpTree_loud rfl ?_
            intro K hK
            have d0 := b18x.out.cell0
            have d1 := b18x.out.cell1
            have fr := b18x.out.free
            go_big_op
            clear d0 d1 fr
            obtain ⟨W19, hW, bz', p⟩ := b18x.out.write (.bool b17) (.slice A17 l17 c17)
            rw [hW]
            replace ex : Ext Nix w15 W19 := ex.hidden p.ext HG_g18.out
            replace b18x := bz'
            replace HX := Lib.hid (HX.out.put p)
            replace H17 := Lib.hid (H17.out.put p)
            replace bxx := Lib.hid (bxx.out.put p (Nat.ne_of_lt (Nat.lt_of_lt_of_le L_bxx.out HG_g18.out)))
            replace HB := Lib.hid (HB.out.put p (Nat.le_trans H0_w15.out HG_g18.out))
            clear hW p
            refine hK _ _ ⟨⟨_, ex⟩, rfl⟩ ?_
            clear hK K
            refine wpTree_done ?_
            go_wp2_with fail
            go_meet
            exact ⟨g18, b17, A17, l17, c17, rfl, rfl, b18x, H17, HX, HB, bxx⟩
        · intro K hK
          go_big_op
          obtain ⟨W18, g18, hW, hg, b18x, G_g18, S_W18, hb⟩ := boxH (w15.drewN 1) (.bool false) (.slice none 0 0)
          first
          | rw [hW, hg]
          | (have hg' : (w15).heap.size = g18 := hg
             rw [hW, hg'])
          have HG_g18 := Lib.hid (show (w15).heap.size ≤ g18 by have h1 := ex.size; have h2 := G_g18.out; omega)
          replace ex : Ext Nix w15 W18 := ex.later (Ext.of_below hb)
          replace HB := Lib.hid (HB.out.stay hb)
          replace HX := Lib.hid (HX.out.stay hb)
          replace HU1 := Lib.hid (HU1.out.stay hb)
          replace bxx := Lib.hid (bxx.out.stay hb)
          clear hW hg hb G_g18 S_W18
          refine hK _ _ ⟨⟨_, ex⟩, rfl⟩ ?_
          clear hK K
          refine wpTree_loud rfl ?_
          intro K hK
          go_big_op
          refine (law18_whole false 1 _ (by rw [W64_eq]; omega)).mono ?_
          rintro e w16 ⟨u16, rfl, h16, hb⟩
          replace ex : Ext Nix w15 w16 := ex.later (Ext.of_below hb)
          replace HU1 := Lib.hid (HU1.out.stay hb)
          replace HX := Lib.hid (HX.out.stay hb)
          replace HB := Lib.hid (HB.out.stay hb)
          replace bxx := Lib.hid (bxx.out.stay hb)
          have HHA := Lib.hid hb
          clear hb
          rw [← raw_one] at h16
          have HO := Lib.hid h16.int
          clear h16
          refine hK _ _ ⟨⟨_, ex⟩, rfl⟩ ?_
          clear hK K
          replace b18x := Lib.hid (b18x.out.stay HHA.out)
          refine wpTree_loud rfl ?_
          intro K hK
          go_big_op
          refine (limb_Add _ _ ZA 1 w16 HU1.out HO.out (by have := HLA.out; omega) (Nat.le_trans (lc_limb (by rw [W64_eq]; decide)) (by omega))).mono ?_
          rintro e w17 ⟨u17, rfl, h17, hb⟩
          replace ex : Ext Nix w15 w17 := ex.later (Ext.of_below hb)
          replace HX := Lib.hid (HX.out.stay hb)
          replace HB := Lib.hid (HB.out.stay hb)
          replace bxx := Lib.hid (bxx.out.stay hb)
          have HHB := Lib.hid hb
          clear hb HU1 HO
          rw [longR_ok (by have := HLS.out; omega)] at h17
          obtain ⟨b17, A17, l17, c17, rfl, H17⟩ := h17.open
          replace H17 := Lib.hid H17.out.int
          clear h17
          rw [longE_ok (by have := HLS.out; omega)]
          refine hK _ _ ⟨⟨_, ex⟩, rfl⟩ ?_
          clear hK K
          replace b18x := Lib.hid (b18x.out.stay HHB.out)
          repeat (refine wpTree_read ?_; go_big_quiet_step (fail); refine wpQuiet_nil ?_)
          refine wpTree_loud rfl ?_
          intro K hK
          have d0 := b18x.out.cell0
          have d1 := b18x.out.cell1
          have fr := b18x.out.free
          go_big_op
          clear d0 d1 fr
          obtain ⟨W19, hW, bz', p⟩ := b18x.out.write (.bool b17) (.slice A17 l17 c17)
          rw [hW]
          replace ex : Ext Nix w15 W19 := ex.hidden p.ext HG_g18.out
          replace b18x := bz'
          replace HX := Lib.hid (HX.out.put p)
          replace H17 := Lib.hid (H17.out.put p)
          replace bxx := Lib.hid (bxx.out.put p (Nat.ne_of_lt (Nat.lt_of_lt_of_le L_bxx.out HG_g18.out)))
          replace HB := Lib.hid (HB.out.put p (Nat.le_trans H0_w15.out HG_g18.out))
          clear hW p
          refine hK _ _ ⟨⟨_, ex⟩, rfl⟩ ?_
          clear hK K
          refine wpTree_done ?_
          go_wp2_with fail
          go_meet
          exact ⟨g18, b17, A17, l17, c17, rfl, rfl, b18x, H17, HX, HB, bxx⟩
      case rest =>
        clear HX HB bxx HU1
        obtain ⟨g18, b17, A17, l17, c17, rfl, rfl, b18x, H17, HX, HB, bxx⟩ := hcut
        have a0 := b18x.out.cell0
        have a1 := b18x.out.cell1
        go_wp2_with fail
        refine (root_Of _ (ZA + 1) k _ H17.out (by have := HLS.out; omega) HKE.out.1 (by have := HKE.out.2; omega) (fun h => HO1.out (by omega))).mono ?_
        rintro e w19 ⟨u19, rfl, h19, hb⟩
        obtain ⟨b19, A19, l19, c19, rfl, H19⟩ := h19.open
        clear h19 a0 a1 H17 b18x
        replace HX := Lib.hid (HX.out.stay hb)
        replace HB := Lib.hid (HB.out.stay hb)
        replace bxx := Lib.hid (bxx.out.stay hb)
        clear hb
        replace H19 := Lib.hid H19.out.int
        go_upto_region 15 with (fail)
        obtain ⟨W20, g20, hW, hg, b20x, G_g20, S_W20, hb⟩ := boxH w19 (.bool b19) (.slice A19 l19 c19)
        rw [hW, hg]
        replace H19 := Lib.hid (H19.out.stay hb)
        replace HX := Lib.hid (HX.out.stay hb)
        replace HB := Lib.hid (HB.out.stay hb)
        replace bxx := Lib.hid (bxx.out.stay hb)
        have B_W20 := Lib.hid (show Since w19 W20 from hb)
        clear hW hg hb
        clear G_g20 S_W20 B_W20
        have a0 := b20x.out.cell0
        have a1 := b20x.out.cell1
        have o0 := bxx.out.cell0
        have o1 := bxx.out.cell1
        have HST := Lib.hid (rootZ_step HKE.out.1 ZA)
        have HLD := Lib.hid (show lc (rootZ k (ZA + 1) - rootZ k ZA).natAbs ≤ 4096 by
          refine Nat.le_trans (lc_limb ?_) (show 1 ≤ 4096 by omega)
          rw [W64_eq]
          have := HST.out
          omega)
        go_wp2_with fail
        refine (limb_Sub _ _ _ _ W20 H19.out HX.out (Nat.le_trans (lc_mono (rootZ_le HKE.out.1)) (by have := HLS.out; omega)) (by have := HLX.out; omega)).mono ?_
        rintro e w21 ⟨u21, rfl, h21, hb⟩
        rw [longR_ok HLD.out] at h21
        rw [longE_ok HLD.out]
        clear a0 a1 o0 o1 H19 HX bxx b20x
        replace HB := Lib.hid (HB.out.stay hb)
        clear hb
        obtain ⟨D, hD⟩ : ∃ D, rootZ k (ZA + 1) - rootZ k ZA = D := ⟨_, rfl⟩
        rw [hD] at h21 HST
        obtain ⟨b21, A21, l21, c21, rfl, H21⟩ := h21.open
        replace H21 := Lib.hid H21.out.rawV
        clear h21 hD HLD
        go_upto_region 16 with (fail)
        obtain ⟨W22, g22, hW, hg, b22x, G_g22, S_W22, hb⟩ := boxH w21 (.bool b21) (.slice A21 l21 c21)
        rw [hW, hg]
        replace H21 := Lib.hid (H21.out.stay hb)
        replace HB := Lib.hid (HB.out.stay hb)
        have B_W22 := Lib.hid (show Since w21 W22 from hb)
        clear hW hg hb
        clear G_g22 S_W22 B_W22
        have r0 := later_cell b22x.out.cell0
        have r1 := later_cell b22x.out.cell1
        rcases HST.out with rfl | rfl
        · obtain rfl : l21 = 0 := by have h5 := H21.out.parts.2.1; rw [show rawOf 0 = (false, []) by unfold rawOf; simp [limbs_zero]] at h5; exact h5
          refine wp_region_stages (fun w' => ∃ δ : Later Nix W22, w' = δ.world) [(false, 0), (false, 1), (false, 2), (false, 3), (false, 4), (false, 5), (false, 6), (false, 7), (false, 8), (false, 9), (false, 10), (false, 11), (false, 12), (false, 13), (false, 14), (false, 15), (false, 16), (true, 17), (true, 18)] 19 [.reads [_, _, _, _, _, _, _, _, _, _, _, _, _, _, _, _, _], .loud _, .loud _] [_, _, _] (by kernel_rfl) (by kernel_rfl) rfl rfl ?_ ?_
          · exact ⟨⟨_, nix_drawn W22⟩, rfl⟩
          refine wpStages_reads ?_
          repeat (go_big_quiet_step (fail))
          refine wpQuiet_nil ?_
          refine wpStages_idle rfl ?_
          refine wpStages_idle rfl ?_
          refine wpStages_nil ?_
          go_wp2_with fail
          go_ret
          exact ⟨rfl, below_drewN HB.out 1⟩
        · obtain rfl : l21 = 1 := by have h5 := H21.out.parts.2.1; rw [raw_one] at h5; exact h5
          refine wp_region_stages (fun w' => ∃ δ : Later Nix W22, w' = δ.world) [(false, 0), (false, 1), (false, 2), (false, 3), (false, 4), (false, 5), (false, 6), (false, 7), (false, 8), (false, 9), (false, 10), (false, 11), (false, 12), (false, 13), (false, 14), (false, 15), (false, 16), (true, 17), (true, 18)] 19 [.reads [_, _, _, _, _, _, _, _, _, _, _, _, _, _, _, _, _], .loud _, .loud _] [_, _, _] (by kernel_rfl) (by kernel_rfl) rfl rfl ?_ ?_
          · exact ⟨⟨_, nix_drawn W22⟩, rfl⟩
          refine wpStages_reads ?_
          repeat (go_big_quiet_step (fail))
          refine wpQuiet_nil ?_
          refine wpStages_loud rfl ?_
          intro K hK
          go_big_op
          have ex : Ext Nix W22 (W22.drewN 1) := nix_drawn W22
          have hb : Below W22.heap.size W22 (W22.drewN 1) := below_drewN (Below.refl _ _) 1
          replace H21 := Lib.hid (H21.out.stay hb)
          replace HB := Lib.hid (HB.out.stay hb)
          clear hb
          refine ((law18_whole false 1 _ (by rw [W64_eq]; omega))).mono ?_
          rintro e w23 ⟨u23, rfl, h23, hb⟩
          replace ex : Ext Nix W22 w23 := ex.later (Ext.of_below hb)
          replace H21 := Lib.hid (H21.out.stay hb)
          replace HB := Lib.hid (HB.out.stay hb)
          clear hb
          refine hK _ _ ⟨⟨_, ex⟩, rfl⟩ ?_
          clear hK K
          rw [← raw_one] at h23
          obtain ⟨b23, A23, l23, c23, rfl, H23⟩ := h23.open
          clear h23
          refine wpStages_loud rfl ?_
          intro K hK
          go_big_op
          refine ((kit_raw _ _ _ _ _ H21.out H23.out (by rw [raw_one]; simp))).mono ?_
          rintro e w24 ⟨rfl, hb⟩
          replace ex : Ext Nix W22 w24 := ex.later (Ext.of_below hb)
          replace HB := Lib.hid (HB.out.stay hb)
          clear hb
          refine hK _ _ ⟨⟨_, ex⟩, rfl⟩ ?_
          clear hK K
          refine wpStages_nil ?_
          rw [decide_eq_true rfl]
          go_wp2_with fail
          go_ret
          exact ⟨rfl, HB.out⟩
    · subst h31
      subst h32
      go_upto_region 13 with (fail)
      have HLS := Lib.hid (show lc (ZA + 1).natAbs ≤ 13 by
        have h1 := lc_add (ZA).natAbs 1
        have h2 := lc_mono (show (ZA + 1).natAbs ≤ (ZA).natAbs + 1 by omega)
        have h3 := lc_limb (x := 1) (by rw [W64_eq]; omega)
        have := HLA.out
        omega)
      go_cut [15, 16] (fun t15 t16 wx => ∃ (g18 : Nat) (b17 : Bool) (A17 : Option Addr) (l17 c17 : Nat), t15 = .pointer (some ⟨g18, 0, none⟩) ∧ t16 = .int .i64 0 ∧ Hid (Box2 wx g18 (.bool b17) (.slice A17 l17 c17)) ∧ Hid (IntV wx (.agg #[.bool b17, .slice A17 l17 c17]) (ZA + 1)) ∧ Hid (IntV wx (.agg #[.bool bx, .slice Ax lx cx]) (rootZ k ZA)) ∧ Hid (Since w wx) ∧ Hid (Box2 wx gx (.bool bx) (.slice Ax lx cx)))
      case first =>
        have r0 := later_cell ba8.out.cell0
        have r1 := later_cell ba8.out.cell1
        refine wp_region_forks (fun w' => ∃ δ : Later Nix w15, w' = δ.world) (.read 0 (.both 1 (.both 2 (.read 3 (.read 4 (.read 5 (.loud 6 (.loud 7 .done))))) 6 (.loud 2 (.read 3 (.read 4 (.read 5 (.loud 7 .done)))))) 6 (.loud 1 (.loud 2 (.read 3 (.read 4 (.read 5 (.loud 7 .done)))))))) 8 (.read _ (.both _ (.both _ (.read _ (.read _ (.read _ (.loud _ (.loud _ .done))))) _ (.loud _ (.read _ (.read _ (.read _ (.loud _ .done)))))) _ (.loud _ (.loud _ (.read _ (.read _ (.read _ (.loud _ .done)))))))) [_] (by kernel_rfl) (by kernel_rfl) rfl rfl ?_ ?_
        · exact ⟨⟨_, nix_drawn w15⟩, rfl⟩
        repeat (refine wpTree_read ?_; go_big_quiet_step (fail); refine wpQuiet_nil ?_)
        have ex : Ext Nix w15 (w15.drewN 1) := nix_drawn w15
        have L_bxx := Lib.hid bxx.out.lt
        have H0_w15 := Lib.hid HB.out.size
        have hb : Below w15.heap.size w15 (w15.drewN 1) := below_drewN (Below.refl _ _) 1
        replace HB := Lib.hid (HB.out.stay hb)
        replace HU1 := Lib.hid (HU1.out.stay hb)
        replace HX := Lib.hid (HX.out.stay hb)
        replace bxx := Lib.hid (bxx.out.stay hb)
        clear hb
        refine wpTree_both rfl rfl ?_ ?_
        · intro K hK
          go_big_op
          refine (law18_whole false 1 _ (by rw [W64_eq]; omega)).mono ?_
          rintro e w16 ⟨u16, rfl, h16, hb⟩
          replace ex : Ext Nix w15 w16 := ex.later (Ext.of_below hb)
          replace HU1 := Lib.hid (HU1.out.stay hb)
          replace HX := Lib.hid (HX.out.stay hb)
          replace HB := Lib.hid (HB.out.stay hb)
          replace bxx := Lib.hid (bxx.out.stay hb)
          have HHA := Lib.hid hb
          clear hb
          rw [← raw_one] at h16
          have HO := Lib.hid h16.int
          clear h16
          refine hK _ _ ⟨⟨_, ex⟩, rfl⟩ ?_
          clear hK K
          refine wpTree_both rfl rfl ?_ ?_
          · intro K hK
            go_big_op
            refine (limb_Add _ _ ZA 1 w16 HU1.out HO.out (by have := HLA.out; omega) (Nat.le_trans (lc_limb (by rw [W64_eq]; decide)) (by omega))).mono ?_
            rintro e w17 ⟨u17, rfl, h17, hb⟩
            replace ex : Ext Nix w15 w17 := ex.later (Ext.of_below hb)
            replace HX := Lib.hid (HX.out.stay hb)
            replace HB := Lib.hid (HB.out.stay hb)
            replace bxx := Lib.hid (bxx.out.stay hb)
            have HHB := Lib.hid hb
            clear hb HU1 HO
            rw [longR_ok (by have := HLS.out; omega)] at h17
            obtain ⟨b17, A17, l17, c17, rfl, H17⟩ := h17.open
            replace H17 := Lib.hid H17.out.int
            clear h17
            rw [longE_ok (by have := HLS.out; omega)]
            refine hK _ _ ⟨⟨_, ex⟩, rfl⟩ ?_
            clear hK K
            repeat (refine wpTree_read ?_; go_big_quiet_step (fail); refine wpQuiet_nil ?_)
            refine wpTree_loud rfl ?_
            intro K hK
            go_big_op
            obtain ⟨W18, g18, hW, hg, b18x, G_g18, S_W18, hb⟩ := boxH w17 (.bool false) (.slice none 0 0)
            first
            | rw [hW, hg]
            | (have hg' : (w15).heap.size = g18 := hg
               rw [hW, hg'])
            have HG_g18 := Lib.hid (show (w15).heap.size ≤ g18 by have h1 := ex.size; have h2 := G_g18.out; omega)
            replace ex : Ext Nix w15 W18 := ex.later (Ext.of_below hb)
            replace HB := Lib.hid (HB.out.stay hb)
            replace HX := Lib.hid (HX.out.stay hb)
            replace H17 := Lib.hid (H17.out.stay hb)
            replace bxx := Lib.hid (bxx.out.stay hb)
            clear hW hg hb G_g18 S_W18
            refine hK _ _ ⟨⟨_, ex⟩, rfl⟩ ?_
            clear hK K
            refine wpTree_loud rfl ?_
            intro K hK
            have d0 := b18x.out.cell0
            have d1 := b18x.out.cell1
            have fr := b18x.out.free
            go_big_op
            clear d0 d1 fr
            obtain ⟨W19, hW, bz', p⟩ := b18x.out.write (.bool b17) (.slice A17 l17 c17)
            rw [hW]
            replace ex : Ext Nix w15 W19 := ex.hidden p.ext HG_g18.out
            replace b18x := bz'
            replace HX := Lib.hid (HX.out.put p)
            replace H17 := Lib.hid (H17.out.put p)
            replace bxx := Lib.hid (bxx.out.put p (Nat.ne_of_lt (Nat.lt_of_lt_of_le L_bxx.out HG_g18.out)))
            replace HB := Lib.hid (HB.out.put p (Nat.le_trans H0_w15.out HG_g18.out))
            clear hW p
            refine hK _ _ ⟨⟨_, ex⟩, rfl⟩ ?_
            clear hK K
            refine wpTree_done ?_
            go_wp2_with fail
            go_meet
            exact ⟨g18, b17, A17, l17, c17, rfl, rfl, b18x, H17, HX, HB, bxx⟩
          · intro K hK
            go_big_op
            obtain ⟨W18, g18, hW, hg, b18x, G_g18, S_W18, hb⟩ := boxH w16 (.bool false) (.slice none 0 0)
            first
            | rw [hW, hg]
            | (have hg' : (w15).heap.size = g18 := hg
               rw [hW, hg'])
            have HG_g18 := Lib.hid (show (w15).heap.size ≤ g18 by have h1 := ex.size; have h2 := G_g18.out; omega)
            replace ex : Ext Nix w15 W18 := ex.later (Ext.of_below hb)
            replace HB := Lib.hid (HB.out.stay hb)
            replace HX := Lib.hid (HX.out.stay hb)
            replace HU1 := Lib.hid (HU1.out.stay hb)
            replace HO := Lib.hid (HO.out.stay hb)
            replace bxx := Lib.hid (bxx.out.stay hb)
            clear hW hg hb G_g18 S_W18
            refine hK _ _ ⟨⟨_, ex⟩, rfl⟩ ?_
            clear hK K
            refine wpTree_loud rfl ?_
            intro K hK
            go_big_op
            refine (limb_Add _ _ ZA 1 W18 HU1.out HO.out (by have := HLA.out; omega) (Nat.le_trans (lc_limb (by rw [W64_eq]; decide)) (by omega))).mono ?_
            rintro e w17 ⟨u17, rfl, h17, hb⟩
            replace ex : Ext Nix w15 w17 := ex.later (Ext.of_below hb)
            replace HX := Lib.hid (HX.out.stay hb)
            replace HB := Lib.hid (HB.out.stay hb)
            replace bxx := Lib.hid (bxx.out.stay hb)
            have HHB := Lib.hid hb
            clear hb HU1 HO
            rw [longR_ok (by have := HLS.out; omega)] at h17
            obtain ⟨b17, A17, l17, c17, rfl, H17⟩ := h17.open
            replace H17 := Lib.hid H17.out.int
            clear h17
            rw [longE_ok (by have := HLS.out; omega)]
            refine hK _ _ ⟨⟨_, ex⟩, rfl⟩ ?_
            clear hK K
            replace b18x := Lib.hid (b18x.out.stay HHB.out)
            repeat (refine wpTree_read ?_; go_big_quiet_step (fail); refine wpQuiet_nil ?_)
            refine wpTree_loud rfl ?_
            intro K hK
            have d0 := b18x.out.cell0
            have d1 := b18x.out.cell1
            have fr := b18x.out.free
            go_big_op
            clear d0 d1 fr
            obtain ⟨W19, hW, bz', p⟩ := b18x.out.write (.bool b17) (.slice A17 l17 c17)
            rw [hW]
            replace ex : Ext Nix w15 W19 := ex.hidden p.ext HG_g18.out
            replace b18x := bz'
            replace HX := Lib.hid (HX.out.put p)
            replace H17 := Lib.hid (H17.out.put p)
            replace bxx := Lib.hid (bxx.out.put p (Nat.ne_of_lt (Nat.lt_of_lt_of_le L_bxx.out HG_g18.out)))
            replace HB := Lib.hid (HB.out.put p (Nat.le_trans H0_w15.out HG_g18.out))
            clear hW p
            refine hK _ _ ⟨⟨_, ex⟩, rfl⟩ ?_
            clear hK K
            refine wpTree_done ?_
            go_wp2_with fail
            go_meet
            exact ⟨g18, b17, A17, l17, c17, rfl, rfl, b18x, H17, HX, HB, bxx⟩
        · intro K hK
          go_big_op
          obtain ⟨W18, g18, hW, hg, b18x, G_g18, S_W18, hb⟩ := boxH (w15.drewN 1) (.bool false) (.slice none 0 0)
          first
          | rw [hW, hg]
          | (have hg' : (w15).heap.size = g18 := hg
             rw [hW, hg'])
          have HG_g18 := Lib.hid (show (w15).heap.size ≤ g18 by have h1 := ex.size; have h2 := G_g18.out; omega)
          replace ex : Ext Nix w15 W18 := ex.later (Ext.of_below hb)
          replace HB := Lib.hid (HB.out.stay hb)
          replace HX := Lib.hid (HX.out.stay hb)
          replace HU1 := Lib.hid (HU1.out.stay hb)
          replace bxx := Lib.hid (bxx.out.stay hb)
          clear hW hg hb G_g18 S_W18
          refine hK _ _ ⟨⟨_, ex⟩, rfl⟩ ?_
          clear hK K
          refine wpTree_loud rfl ?_
          intro K hK
          go_big_op
          refine (law18_whole false 1 _ (by rw [W64_eq]; omega)).mono ?_
          rintro e w16 ⟨u16, rfl, h16, hb⟩
          replace ex : Ext Nix w15 w16 := ex.later (Ext.of_below hb)
          replace HU1 := Lib.hid (HU1.out.stay hb)
          replace HX := Lib.hid (HX.out.stay hb)
          replace HB := Lib.hid (HB.out.stay hb)
          replace bxx := Lib.hid (bxx.out.stay hb)
          have HHA := Lib.hid hb
          clear hb
          rw [← raw_one] at h16
          have HO := Lib.hid h16.int
          clear h16
          refine hK _ _ ⟨⟨_, ex⟩, rfl⟩ ?_
          clear hK K
          replace b18x := Lib.hid (b18x.out.stay HHA.out)
          refine wpTree_loud rfl ?_
          intro K hK
          go_big_op
          refine (limb_Add _ _ ZA 1 w16 HU1.out HO.out (by have := HLA.out; omega) (Nat.le_trans (lc_limb (by rw [W64_eq]; decide)) (by omega))).mono ?_
          rintro e w17 ⟨u17, rfl, h17, hb⟩
          replace ex : Ext Nix w15 w17 := ex.later (Ext.of_below hb)
          replace HX := Lib.hid (HX.out.stay hb)
          replace HB := Lib.hid (HB.out.stay hb)
          replace bxx := Lib.hid (bxx.out.stay hb)
          have HHB := Lib.hid hb
          clear hb HU1 HO
          rw [longR_ok (by have := HLS.out; omega)] at h17
          obtain ⟨b17, A17, l17, c17, rfl, H17⟩ := h17.open
          replace H17 := Lib.hid H17.out.int
          clear h17
          rw [longE_ok (by have := HLS.out; omega)]
          refine hK _ _ ⟨⟨_, ex⟩, rfl⟩ ?_
          clear hK K
          replace b18x := Lib.hid (b18x.out.stay HHB.out)
          repeat (refine wpTree_read ?_; go_big_quiet_step (fail); refine wpQuiet_nil ?_)
          refine wpTree_loud rfl ?_
          intro K hK
          have d0 := b18x.out.cell0
          have d1 := b18x.out.cell1
          have fr := b18x.out.free
          go_big_op
          clear d0 d1 fr
          obtain ⟨W19, hW, bz', p⟩ := b18x.out.write (.bool b17) (.slice A17 l17 c17)
          rw [hW]
          replace ex : Ext Nix w15 W19 := ex.hidden p.ext HG_g18.out
          replace b18x := bz'
          replace HX := Lib.hid (HX.out.put p)
          replace H17 := Lib.hid (H17.out.put p)
          replace bxx := Lib.hid (bxx.out.put p (Nat.ne_of_lt (Nat.lt_of_lt_of_le L_bxx.out HG_g18.out)))
          replace HB := Lib.hid (HB.out.put p (Nat.le_trans H0_w15.out HG_g18.out))
          clear hW p
          refine hK _ _ ⟨⟨_, ex⟩, rfl⟩ ?_
          clear hK K
          refine wpTree_done ?_
          go_wp2_with fail
          go_meet
          exact ⟨g18, b17, A17, l17, c17, rfl, rfl, b18x, H17, HX, HB, bxx⟩
      case rest =>
        clear HX HB bxx HU1
        obtain ⟨g18, b17, A17, l17, c17, rfl, rfl, b18x, H17, HX, HB, bxx⟩ := hcut
        have a0 := b18x.out.cell0
        have a1 := b18x.out.cell1
        go_wp2_with fail
        refine (root_Of _ (ZA + 1) k _ H17.out (by have := HLS.out; omega) HKE.out.1 (by have := HKE.out.2; omega) (fun h => HO1.out (by omega))).mono ?_
        rintro e w19 ⟨u19, rfl, h19, hb⟩
        obtain ⟨b19, A19, l19, c19, rfl, H19⟩ := h19.open
        clear h19 a0 a1 H17 b18x
        replace HX := Lib.hid (HX.out.stay hb)
        replace HB := Lib.hid (HB.out.stay hb)
        replace bxx := Lib.hid (bxx.out.stay hb)
        clear hb
        replace H19 := Lib.hid H19.out.int
        go_upto_region 15 with (fail)
        obtain ⟨W20, g20, hW, hg, b20x, G_g20, S_W20, hb⟩ := boxH w19 (.bool b19) (.slice A19 l19 c19)
        rw [hW, hg]
        replace H19 := Lib.hid (H19.out.stay hb)
        replace HX := Lib.hid (HX.out.stay hb)
        replace HB := Lib.hid (HB.out.stay hb)
        replace bxx := Lib.hid (bxx.out.stay hb)
        have B_W20 := Lib.hid (show Since w19 W20 from hb)
        clear hW hg hb
        clear G_g20 S_W20 B_W20
        have a0 := b20x.out.cell0
        have a1 := b20x.out.cell1
        have o0 := bxx.out.cell0
        have o1 := bxx.out.cell1
        have HST := Lib.hid (rootZ_step HKE.out.1 ZA)
        have HLD := Lib.hid (show lc (rootZ k (ZA + 1) - rootZ k ZA).natAbs ≤ 4096 by
          refine Nat.le_trans (lc_limb ?_) (show 1 ≤ 4096 by omega)
          rw [W64_eq]
          have := HST.out
          omega)
        go_wp2_with fail
        refine (limb_Sub _ _ _ _ W20 H19.out HX.out (Nat.le_trans (lc_mono (rootZ_le HKE.out.1)) (by have := HLS.out; omega)) (by have := HLX.out; omega)).mono ?_
        rintro e w21 ⟨u21, rfl, h21, hb⟩
        rw [longR_ok HLD.out] at h21
        rw [longE_ok HLD.out]
        clear a0 a1 o0 o1 H19 HX bxx b20x
        replace HB := Lib.hid (HB.out.stay hb)
        clear hb
        obtain ⟨D, hD⟩ : ∃ D, rootZ k (ZA + 1) - rootZ k ZA = D := ⟨_, rfl⟩
        rw [hD] at h21 HST
        obtain ⟨b21, A21, l21, c21, rfl, H21⟩ := h21.open
        replace H21 := Lib.hid H21.out.rawV
        clear h21 hD HLD
        go_upto_region 16 with (fail)
        obtain ⟨W22, g22, hW, hg, b22x, G_g22, S_W22, hb⟩ := boxH w21 (.bool b21) (.slice A21 l21 c21)
        rw [hW, hg]
        replace H21 := Lib.hid (H21.out.stay hb)
        replace HB := Lib.hid (HB.out.stay hb)
        have B_W22 := Lib.hid (show Since w21 W22 from hb)
        clear hW hg hb
        clear G_g22 S_W22 B_W22
        have r0 := later_cell b22x.out.cell0
        have r1 := later_cell b22x.out.cell1
        rcases HST.out with rfl | rfl
        · obtain rfl : l21 = 0 := by have h5 := H21.out.parts.2.1; rw [show rawOf 0 = (false, []) by unfold rawOf; simp [limbs_zero]] at h5; exact h5
          refine wp_region_stages (fun w' => ∃ δ : Later Nix W22, w' = δ.world) [(false, 0), (false, 1), (false, 2), (false, 3), (false, 4), (false, 5), (false, 6), (false, 7), (false, 8), (false, 9), (false, 10), (false, 11), (false, 12), (false, 13), (false, 14), (false, 15), (false, 16), (true, 17), (true, 18)] 19 [.reads [_, _, _, _, _, _, _, _, _, _, _, _, _, _, _, _, _], .loud _, .loud _] [_, _, _] (by kernel_rfl) (by kernel_rfl) rfl rfl ?_ ?_
          · exact ⟨⟨_, nix_drawn W22⟩, rfl⟩
          refine wpStages_reads ?_
          repeat (go_big_quiet_step (fail))
          refine wpQuiet_nil ?_
          refine wpStages_idle rfl ?_
          refine wpStages_idle rfl ?_
          refine wpStages_nil ?_
          go_wp2_with fail
          go_ret
          exact ⟨rfl, below_drewN HB.out 1⟩
        · obtain rfl : l21 = 1 := by have h5 := H21.out.parts.2.1; rw [raw_one] at h5; exact h5
          refine wp_region_stages (fun w' => ∃ δ : Later Nix W22, w' = δ.world) [(false, 0), (false, 1), (false, 2), (false, 3), (false, 4), (false, 5), (false, 6), (false, 7), (false, 8), (false, 9), (false, 10), (false, 11), (false, 12), (false, 13), (false, 14), (false, 15), (false, 16), (true, 17), (true, 18)] 19 [.reads [_, _, _, _, _, _, _, _, _, _, _, _, _, _, _, _, _], .loud _, .loud _] [_, _, _] (by kernel_rfl) (by kernel_rfl) rfl rfl ?_ ?_
          · exact ⟨⟨_, nix_drawn W22⟩, rfl⟩
          refine wpStages_reads ?_
          repeat (go_big_quiet_step (fail))
          refine wpQuiet_nil ?_
          refine wpStages_loud rfl ?_
          intro K hK
          go_big_op
          have ex : Ext Nix W22 (W22.drewN 1) := nix_drawn W22
          have hb : Below W22.heap.size W22 (W22.drewN 1) := below_drewN (Below.refl _ _) 1
          replace H21 := Lib.hid (H21.out.stay hb)
          replace HB := Lib.hid (HB.out.stay hb)
          clear hb
          refine ((law18_whole false 1 _ (by rw [W64_eq]; omega))).mono ?_
          rintro e w23 ⟨u23, rfl, h23, hb⟩
          replace ex : Ext Nix W22 w23 := ex.later (Ext.of_below hb)
          replace H21 := Lib.hid (H21.out.stay hb)
          replace HB := Lib.hid (HB.out.stay hb)
          clear hb
          refine hK _ _ ⟨⟨_, ex⟩, rfl⟩ ?_
          clear hK K
          rw [← raw_one] at h23
          obtain ⟨b23, A23, l23, c23, rfl, H23⟩ := h23.open
          clear h23
          refine wpStages_loud rfl ?_
          intro K hK
          go_big_op
          refine ((kit_raw _ _ _ _ _ H21.out H23.out (by rw [raw_one]; simp))).mono ?_
          rintro e w24 ⟨rfl, hb⟩
          replace ex : Ext Nix W22 w24 := ex.later (Ext.of_below hb)
          replace HB := Lib.hid (HB.out.stay hb)
          clear hb
          refine hK _ _ ⟨⟨_, ex⟩, rfl⟩ ?_
          clear hK K
          refine wpStages_nil ?_
          rw [decide_eq_true rfl]
          go_wp2_with fail
          go_ret
          exact ⟨rfl, HB.out⟩
    · have h33 : ¬ cc ≤ 0 := by omega
      have h34 : 0 ≤ cc := by omega
      have h35 : ¬ dd < 0 := by omega
      clear h31 h32
      go_upto_region 13 with (fail)
      have HLS := Lib.hid (show lc (ZA + 1).natAbs ≤ 13 by
        have h1 := lc_add (ZA).natAbs 1
        have h2 := lc_mono (show (ZA + 1).natAbs ≤ (ZA).natAbs + 1 by omega)
        have h3 := lc_limb (x := 1) (by rw [W64_eq]; omega)
        have := HLA.out
        omega)
      go_cut [15, 16] (fun t15 t16 wx => ∃ (g18 : Nat) (b17 : Bool) (A17 : Option Addr) (l17 c17 : Nat), t15 = .pointer (some ⟨g18, 0, none⟩) ∧ t16 = .int .i64 0 ∧ Hid (Box2 wx g18 (.bool b17) (.slice A17 l17 c17)) ∧ Hid (IntV wx (.agg #[.bool b17, .slice A17 l17 c17]) (ZA + 1)) ∧ Hid (IntV wx (.agg #[.bool bx, .slice Ax lx cx]) (rootZ k ZA)) ∧ Hid (Since w wx) ∧ Hid (Box2 wx gx (.bool bx) (.slice Ax lx cx)))
      case first =>
        have r0 := later_cell ba8.out.cell0
        have r1 := later_cell ba8.out.cell1
        refine wp_region_forks (fun w' => ∃ δ : Later Nix w15, w' = δ.world) (.read 0 (.both 1 (.both 2 (.read 3 (.read 4 (.read 5 (.loud 6 (.loud 7 .done))))) 6 (.loud 2 (.read 3 (.read 4 (.read 5 (.loud 7 .done)))))) 6 (.loud 1 (.loud 2 (.read 3 (.read 4 (.read 5 (.loud 7 .done)))))))) 8 (.read _ (.both _ (.both _ (.read _ (.read _ (.read _ (.loud _ (.loud _ .done))))) _ (.loud _ (.read _ (.read _ (.read _ (.loud _ .done)))))) _ (.loud _ (.loud _ (.read _ (.read _ (.read _ (.loud _ .done)))))))) [_] (by kernel_rfl) (by kernel_rfl) rfl rfl ?_ ?_
        · exact ⟨⟨_, nix_drawn w15⟩, rfl⟩
        repeat (refine wpTree_read ?_; go_big_quiet_step (fail); refine wpQuiet_nil ?_)
        have ex : Ext Nix w15 (w15.drewN 1) := nix_drawn w15
        have L_bxx := Lib.hid bxx.out.lt
        have H0_w15 := Lib.hid HB.out.size
        have hb : Below w15.heap.size w15 (w15.drewN 1) := below_drewN (Below.refl _ _) 1
        replace HB := Lib.hid (HB.out.stay hb)
        replace HU1 := Lib.hid (HU1.out.stay hb)
        replace HX := Lib.hid (HX.out.stay hb)
        replace bxx := Lib.hid (bxx.out.stay hb)
        clear hb
        refine wpTree_both rfl rfl ?_ ?_
        · intro K hK
          go_big_op
          refine (law18_whole false 1 _ (by rw [W64_eq]; omega)).mono ?_
          rintro e w16 ⟨u16, rfl, h16, hb⟩
          replace ex : Ext Nix w15 w16 := ex.later (Ext.of_below hb)
          replace HU1 := Lib.hid (HU1.out.stay hb)
          replace HX := Lib.hid (HX.out.stay hb)
          replace HB := Lib.hid (HB.out.stay hb)
          replace bxx := Lib.hid (bxx.out.stay hb)
          have HHA := Lib.hid hb
          clear hb
          rw [← raw_one] at h16
          have HO := Lib.hid h16.int
          clear h16
          refine hK _ _ ⟨⟨_, ex⟩, rfl⟩ ?_
          clear hK K
          refine wpTree_both rfl rfl ?_ ?_
          · intro K hK
            go_big_op
            refine (limb_Add _ _ ZA 1 w16 HU1.out HO.out (by have := HLA.out; omega) (Nat.le_trans (lc_limb (by rw [W64_eq]; decide)) (by omega))).mono ?_
            rintro e w17 ⟨u17, rfl, h17, hb⟩
            replace ex : Ext Nix w15 w17 := ex.later (Ext.of_below hb)
            replace HX := Lib.hid (HX.out.stay hb)
            replace HB := Lib.hid (HB.out.stay hb)
            replace bxx := Lib.hid (bxx.out.stay hb)
            have HHB := Lib.hid hb
            clear hb HU1 HO
            rw [longR_ok (by have := HLS.out; omega)] at h17
            obtain ⟨b17, A17, l17, c17, rfl, H17⟩ := h17.open
            replace H17 := Lib.hid H17.out.int
            clear h17
            rw [longE_ok (by have := HLS.out; omega)]
            refine hK _ _ ⟨⟨_, ex⟩, rfl⟩ ?_
            clear hK K
            repeat (refine wpTree_read ?_; go_big_quiet_step (fail); refine wpQuiet_nil ?_)
            refine wpTree_loud rfl ?_
            intro K hK
            go_big_op
            obtain ⟨W18, g18, hW, hg, b18x, G_g18, S_W18, hb⟩ := boxH w17 (.bool false) (.slice none 0 0)
            first
            | rw [hW, hg]
            | (have hg' : (w15).heap.size = g18 := hg
               rw [hW, hg'])
            have HG_g18 := Lib.hid (show (w15).heap.size ≤ g18 by have h1 := ex.size; have h2 := G_g18.out; omega)
            replace ex : Ext Nix w15 W18 := ex.later (Ext.of_below hb)
            replace HB := Lib.hid (HB.out.stay hb)
            replace HX := Lib.hid (HX.out.stay hb)
            replace H17 := Lib.hid (H17.out.stay hb)
            replace bxx := Lib.hid (bxx.out.stay hb)
            clear hW hg hb G_g18 S_W18
            refine hK _ _ ⟨⟨_, ex⟩, rfl⟩ ?_
            clear hK K
            refine wpTree_loud rfl ?_
            intro K hK
            have d0 := b18x.out.cell0
            have d1 := b18x.out.cell1
            have fr := b18x.out.free
            go_big_op
            clear d0 d1 fr
            obtain ⟨W19, hW, bz', p⟩ := b18x.out.write (.bool b17) (.slice A17 l17 c17)
            rw [hW]
            replace ex : Ext Nix w15 W19 := ex.hidden p.ext HG_g18.out
            replace b18x := bz'
            replace HX := Lib.hid (HX.out.put p)
            replace H17 := Lib.hid (H17.out.put p)
            replace bxx := Lib.hid (bxx.out.put p (Nat.ne_of_lt (Nat.lt_of_lt_of_le L_bxx.out HG_g18.out)))
            replace HB := Lib.hid (HB.out.put p (Nat.le_trans H0_w15.out HG_g18.out))
            clear hW p
            refine hK _ _ ⟨⟨_, ex⟩, rfl⟩ ?_
            clear hK K
            refine wpTree_done ?_
            go_wp2_with fail
            go_meet
            exact ⟨g18, b17, A17, l17, c17, rfl, rfl, b18x, H17, HX, HB, bxx⟩
          · intro K hK
            go_big_op
            obtain ⟨W18, g18, hW, hg, b18x, G_g18, S_W18, hb⟩ := boxH w16 (.bool false) (.slice none 0 0)
            first
            | rw [hW, hg]
            | (have hg' : (w15).heap.size = g18 := hg
               rw [hW, hg'])
            have HG_g18 := Lib.hid (show (w15).heap.size ≤ g18 by have h1 := ex.size; have h2 := G_g18.out; omega)
            replace ex : Ext Nix w15 W18 := ex.later (Ext.of_below hb)
            replace HB := Lib.hid (HB.out.stay hb)
            replace HX := Lib.hid (HX.out.stay hb)
            replace HU1 := Lib.hid (HU1.out.stay hb)
            replace HO := Lib.hid (HO.out.stay hb)
            replace bxx := Lib.hid (bxx.out.stay hb)
            clear hW hg hb G_g18 S_W18
            refine hK _ _ ⟨⟨_, ex⟩, rfl⟩ ?_
            clear hK K
            refine wpTree_loud rfl ?_
            intro K hK
            go_big_op
            refine (limb_Add _ _ ZA 1 W18 HU1.out HO.out (by have := HLA.out; omega) (Nat.le_trans (lc_limb (by rw [W64_eq]; decide)) (by omega))).mono ?_
            rintro e w17 ⟨u17, rfl, h17, hb⟩
            replace ex : Ext Nix w15 w17 := ex.later (Ext.of_below hb)
            replace HX := Lib.hid (HX.out.stay hb)
            replace HB := Lib.hid (HB.out.stay hb)
            replace bxx := Lib.hid (bxx.out.stay hb)
            have HHB := Lib.hid hb
            clear hb HU1 HO
            rw [longR_ok (by have := HLS.out; omega)] at h17
            obtain ⟨b17, A17, l17, c17, rfl, H17⟩ := h17.open
            replace H17 := Lib.hid H17.out.int
            clear h17
            rw [longE_ok (by have := HLS.out; omega)]
            refine hK _ _ ⟨⟨_, ex⟩, rfl⟩ ?_
            clear hK K
            replace b18x := Lib.hid (b18x.out.stay HHB.out)
            repeat (refine wpTree_read ?_; go_big_quiet_step (fail); refine wpQuiet_nil ?_)
            refine wpTree_loud rfl ?_
            intro K hK
            have d0 := b18x.out.cell0
            have d1 := b18x.out.cell1
            have fr := b18x.out.free
            go_big_op
            clear d0 d1 fr
            obtain ⟨W19, hW, bz', p⟩ := b18x.out.write (.bool b17) (.slice A17 l17 c17)
            rw [hW]
            replace ex : Ext Nix w15 W19 := ex.hidden p.ext HG_g18.out
            replace b18x := bz'
            replace HX := Lib.hid (HX.out.put p)
            replace H17 := Lib.hid (H17.out.put p)
            replace bxx := Lib.hid (bxx.out.put p (Nat.ne_of_lt (Nat.lt_of_lt_of_le L_bxx.out HG_g18.out)))
            replace HB := Lib.hid (HB.out.put p (Nat.le_trans H0_w15.out HG_g18.out))
            clear hW p
            refine hK _ _ ⟨⟨_, ex⟩, rfl⟩ ?_
            clear hK K
            refine wpTree_done ?_
            go_wp2_with fail
            go_meet
            exact ⟨g18, b17, A17, l17, c17, rfl, rfl, b18x, H17, HX, HB, bxx⟩
        · intro K hK
          go_big_op
          obtain ⟨W18, g18, hW, hg, b18x, G_g18, S_W18, hb⟩ := boxH (w15.drewN 1) (.bool false) (.slice none 0 0)
          first
          | rw [hW, hg]
          | (have hg' : (w15).heap.size = g18 := hg
             rw [hW, hg'])
          have HG_g18 := Lib.hid (show (w15).heap.size ≤ g18 by have h1 := ex.size; have h2 := G_g18.out; omega)
          replace ex : Ext Nix w15 W18 := ex.later (Ext.of_below hb)
          replace HB := Lib.hid (HB.out.stay hb)
          replace HX := Lib.hid (HX.out.stay hb)
          replace HU1 := Lib.hid (HU1.out.stay hb)
          replace bxx := Lib.hid (bxx.out.stay hb)
          clear hW hg hb G_g18 S_W18
          refine hK _ _ ⟨⟨_, ex⟩, rfl⟩ ?_
          clear hK K
          refine wpTree_loud rfl ?_
          intro K hK
          go_big_op
          refine (law18_whole false 1 _ (by rw [W64_eq]; omega)).mono ?_
          rintro e w16 ⟨u16, rfl, h16, hb⟩
          replace ex : Ext Nix w15 w16 := ex.later (Ext.of_below hb)
          replace HU1 := Lib.hid (HU1.out.stay hb)
          replace HX := Lib.hid (HX.out.stay hb)
          replace HB := Lib.hid (HB.out.stay hb)
          replace bxx := Lib.hid (bxx.out.stay hb)
          have HHA := Lib.hid hb
          clear hb
          rw [← raw_one] at h16
          have HO := Lib.hid h16.int
          clear h16
          refine hK _ _ ⟨⟨_, ex⟩, rfl⟩ ?_
          clear hK K
          replace b18x := Lib.hid (b18x.out.stay HHA.out)
          refine wpTree_loud rfl ?_
          intro K hK
          go_big_op
          refine (limb_Add _ _ ZA 1 w16 HU1.out HO.out (by have := HLA.out; omega) (Nat.le_trans (lc_limb (by rw [W64_eq]; decide)) (by omega))).mono ?_
          rintro e w17 ⟨u17, rfl, h17, hb⟩
          replace ex : Ext Nix w15 w17 := ex.later (Ext.of_below hb)
          replace HX := Lib.hid (HX.out.stay hb)
          replace HB := Lib.hid (HB.out.stay hb)
          replace bxx := Lib.hid (bxx.out.stay hb)
          have HHB := Lib.hid hb
          clear hb HU1 HO
          rw [longR_ok (by have := HLS.out; omega)] at h17
          obtain ⟨b17, A17, l17, c17, rfl, H17⟩ := h17.open
          replace H17 := Lib.hid H17.out.int
          clear h17
          rw [longE_ok (by have := HLS.out; omega)]
          refine hK _ _ ⟨⟨_, ex⟩, rfl⟩ ?_
          clear hK K
          replace b18x := Lib.hid (b18x.out.stay HHB.out)
          repeat (refine wpTree_read ?_; go_big_quiet_step (fail); refine wpQuiet_nil ?_)
          refine wpTree_loud rfl ?_
          intro K hK
          have d0 := b18x.out.cell0
          have d1 := b18x.out.cell1
          have fr := b18x.out.free
          go_big_op
          clear d0 d1 fr
          obtain ⟨W19, hW, bz', p⟩ := b18x.out.write (.bool b17) (.slice A17 l17 c17)
          rw [hW]
          replace ex : Ext Nix w15 W19 := ex.hidden p.ext HG_g18.out
          replace b18x := bz'
          replace HX := Lib.hid (HX.out.put p)
          replace H17 := Lib.hid (H17.out.put p)
          replace bxx := Lib.hid (bxx.out.put p (Nat.ne_of_lt (Nat.lt_of_lt_of_le L_bxx.out HG_g18.out)))
          replace HB := Lib.hid (HB.out.put p (Nat.le_trans H0_w15.out HG_g18.out))
          clear hW p
          refine hK _ _ ⟨⟨_, ex⟩, rfl⟩ ?_
          clear hK K
          refine wpTree_done ?_
          go_wp2_with fail
          go_meet
          exact ⟨g18, b17, A17, l17, c17, rfl, rfl, b18x, H17, HX, HB, bxx⟩
      case rest =>
        clear HX HB bxx HU1
        obtain ⟨g18, b17, A17, l17, c17, rfl, rfl, b18x, H17, HX, HB, bxx⟩ := hcut
        have a0 := b18x.out.cell0
        have a1 := b18x.out.cell1
        go_wp2_with fail
        refine (root_Of _ (ZA + 1) k _ H17.out (by have := HLS.out; omega) HKE.out.1 (by have := HKE.out.2; omega) (fun h => HO1.out (by omega))).mono ?_
        rintro e w19 ⟨u19, rfl, h19, hb⟩
        obtain ⟨b19, A19, l19, c19, rfl, H19⟩ := h19.open
        clear h19 a0 a1 H17 b18x
        replace HX := Lib.hid (HX.out.stay hb)
        replace HB := Lib.hid (HB.out.stay hb)
        replace bxx := Lib.hid (bxx.out.stay hb)
        clear hb
        replace H19 := Lib.hid H19.out.int
        go_upto_region 15 with (fail)
        obtain ⟨W20, g20, hW, hg, b20x, G_g20, S_W20, hb⟩ := boxH w19 (.bool b19) (.slice A19 l19 c19)
        rw [hW, hg]
        replace H19 := Lib.hid (H19.out.stay hb)
        replace HX := Lib.hid (HX.out.stay hb)
        replace HB := Lib.hid (HB.out.stay hb)
        replace bxx := Lib.hid (bxx.out.stay hb)
        have B_W20 := Lib.hid (show Since w19 W20 from hb)
        clear hW hg hb
        clear G_g20 S_W20 B_W20
        have a0 := b20x.out.cell0
        have a1 := b20x.out.cell1
        have o0 := bxx.out.cell0
        have o1 := bxx.out.cell1
        have HST := Lib.hid (rootZ_step HKE.out.1 ZA)
        have HLD := Lib.hid (show lc (rootZ k (ZA + 1) - rootZ k ZA).natAbs ≤ 4096 by
          refine Nat.le_trans (lc_limb ?_) (show 1 ≤ 4096 by omega)
          rw [W64_eq]
          have := HST.out
          omega)
        go_wp2_with fail
        refine (limb_Sub _ _ _ _ W20 H19.out HX.out (Nat.le_trans (lc_mono (rootZ_le HKE.out.1)) (by have := HLS.out; omega)) (by have := HLX.out; omega)).mono ?_
        rintro e w21 ⟨u21, rfl, h21, hb⟩
        rw [longR_ok HLD.out] at h21
        rw [longE_ok HLD.out]
        clear a0 a1 o0 o1 H19 HX bxx b20x
        replace HB := Lib.hid (HB.out.stay hb)
        clear hb
        obtain ⟨D, hD⟩ : ∃ D, rootZ k (ZA + 1) - rootZ k ZA = D := ⟨_, rfl⟩
        rw [hD] at h21 HST
        obtain ⟨b21, A21, l21, c21, rfl, H21⟩ := h21.open
        replace H21 := Lib.hid H21.out.rawV
        clear h21 hD HLD
        go_upto_region 16 with (fail)
        obtain ⟨W22, g22, hW, hg, b22x, G_g22, S_W22, hb⟩ := boxH w21 (.bool b21) (.slice A21 l21 c21)
        rw [hW, hg]
        replace H21 := Lib.hid (H21.out.stay hb)
        replace HB := Lib.hid (HB.out.stay hb)
        have B_W22 := Lib.hid (show Since w21 W22 from hb)
        clear hW hg hb
        clear G_g22 S_W22 B_W22
        have r0 := later_cell b22x.out.cell0
        have r1 := later_cell b22x.out.cell1
        rcases HST.out with rfl | rfl
        · obtain rfl : l21 = 0 := by have h5 := H21.out.parts.2.1; rw [show rawOf 0 = (false, []) by unfold rawOf; simp [limbs_zero]] at h5; exact h5
          refine wp_region_stages (fun w' => ∃ δ : Later Nix W22, w' = δ.world) [(false, 0), (false, 1), (false, 2), (false, 3), (false, 4), (false, 5), (false, 6), (false, 7), (false, 8), (false, 9), (false, 10), (false, 11), (false, 12), (false, 13), (false, 14), (false, 15), (false, 16), (true, 17), (true, 18)] 19 [.reads [_, _, _, _, _, _, _, _, _, _, _, _, _, _, _, _, _], .loud _, .loud _] [_, _, _] (by kernel_rfl) (by kernel_rfl) rfl rfl ?_ ?_
          · exact ⟨⟨_, nix_drawn W22⟩, rfl⟩
          refine wpStages_reads ?_
          repeat (go_big_quiet_step (fail))
          refine wpQuiet_nil ?_
          refine wpStages_idle rfl ?_
          refine wpStages_idle rfl ?_
          refine wpStages_nil ?_
          go_wp2_with fail
          go_ret
          exact ⟨rfl, below_drewN HB.out 1⟩
        · obtain rfl : l21 = 1 := by have h5 := H21.out.parts.2.1; rw [raw_one] at h5; exact h5
          refine wp_region_stages (fun w' => ∃ δ : Later Nix W22, w' = δ.world) [(false, 0), (false, 1), (false, 2), (false, 3), (false, 4), (false, 5), (false, 6), (false, 7), (false, 8), (false, 9), (false, 10), (false, 11), (false, 12), (false, 13), (false, 14), (false, 15), (false, 16), (true, 17), (true, 18)] 19 [.reads [_, _, _, _, _, _, _, _, _, _, _, _, _, _, _, _, _], .loud _, .loud _] [_, _, _] (by kernel_rfl) (by kernel_rfl) rfl rfl ?_ ?_
          · exact ⟨⟨_, nix_drawn W22⟩, rfl⟩
          refine wpStages_reads ?_
          repeat (go_big_quiet_step (fail))
          refine wpQuiet_nil ?_
          refine wpStages_loud rfl ?_
          intro K hK
          go_big_op
          have ex : Ext Nix W22 (W22.drewN 1) := nix_drawn W22
          have hb : Below W22.heap.size W22 (W22.drewN 1) := below_drewN (Below.refl _ _) 1
          replace H21 := Lib.hid (H21.out.stay hb)
          replace HB := Lib.hid (HB.out.stay hb)
          clear hb
          refine ((law18_whole false 1 _ (by rw [W64_eq]; omega))).mono ?_
          rintro e w23 ⟨u23, rfl, h23, hb⟩
          replace ex : Ext Nix W22 w23 := ex.later (Ext.of_below hb)
          replace H21 := Lib.hid (H21.out.stay hb)
          replace HB := Lib.hid (HB.out.stay hb)
          clear hb
          refine hK _ _ ⟨⟨_, ex⟩, rfl⟩ ?_
          clear hK K
          rw [← raw_one] at h23
          obtain ⟨b23, A23, l23, c23, rfl, H23⟩ := h23.open
          clear h23
          refine wpStages_loud rfl ?_
          intro K hK
          go_big_op
          refine ((kit_raw _ _ _ _ _ H21.out H23.out (by rw [raw_one]; simp))).mono ?_
          rintro e w24 ⟨rfl, hb⟩
          replace ex : Ext Nix W22 w24 := ex.later (Ext.of_below hb)
          replace HB := Lib.hid (HB.out.stay hb)
          clear hb
          refine hK _ _ ⟨⟨_, ex⟩, rfl⟩ ?_
          clear hK K
          refine wpStages_nil ?_
          rw [decide_eq_true rfl]
          go_wp2_with fail
          go_ret
          exact ⟨rfl, HB.out⟩
  · have hev : ((k : Int) % 2 == 0) = false := by rw [beq_eq_false_iff_ne]; omega
    have HE := Lib.hid he
    clear he
    go_upto_region 7 with (fail)
    have HO1 := Lib.hid (fun (_ : z1 < 0) => HE.out)
    have HO2 := Lib.hid (fun (_ : z2 < 0) => HE.out)
    have HLA := HLZ1
    have HLB := HLZ2
    clear fa fb a0 a1 o0 o1
    have a0 := ba5.out.cell0
    have a1 := ba5.out.cell1
    have o0 := bb6.out.cell0
    have o1 := bb6.out.cell1
    go_wp2_with fail
    refine (limb_Cmp _ _ z1 z2 _ HU1.out HU2.out (by have := HLA.out; omega) (by have := HLB.out; omega)).mono ?_
    rintro e w10 ⟨rfl, hb⟩
    clear a0 a1 o0 o1
    replace HU1 := Lib.hid (HU1.out.stay hb)
    replace HU2 := Lib.hid (HU2.out.stay hb)
    replace HB := Lib.hid (HB.out.stay hb)
    replace ba5 := Lib.hid (ba5.out.stay hb)
    replace bb6 := Lib.hid (bb6.out.stay hb)
    clear hb
    obtain ⟨cc, hcc⟩ : ∃ cc, cmpZ z1 z2 = cc := ⟨_, rfl⟩
    rw [hcc]
    have HCC := Lib.hid hcc
    clear hcc
    have a0 := ba5.out.cell0
    have a1 := ba5.out.cell1
    go_wp2_with fail
    refine (root_Of _ z1 k w10 HU1.out (by have := HLA.out; omega) HKE.out.1 (by have := HKE.out.2; omega) HO1.out).mono ?_
    rintro e w11 ⟨ux, rfl, hx, hb⟩
    obtain ⟨bx, Ax, lx, cx, rfl, HX⟩ := hx.open
    clear hx a0 a1
    replace HU1 := Lib.hid (HU1.out.stay hb)
    replace HU2 := Lib.hid (HU2.out.stay hb)
    replace HB := Lib.hid (HB.out.stay hb)
    replace ba5 := Lib.hid (ba5.out.stay hb)
    replace bb6 := Lib.hid (bb6.out.stay hb)
    clear hb
    replace HX := Lib.hid HX.out.int
    go_upto_region 9 with (fail)
    obtain ⟨W12, gx, hW, hg, bxx, G_gx, S_W12, hb⟩ := boxH w11 (.bool bx) (.slice Ax lx cx)
    rw [hW, hg]
    replace HU1 := Lib.hid (HU1.out.stay hb)
    replace HU2 := Lib.hid (HU2.out.stay hb)
    replace HB := Lib.hid (HB.out.stay hb)
    replace HX := Lib.hid (HX.out.stay hb)
    replace ba5 := Lib.hid (ba5.out.stay hb)
    replace bb6 := Lib.hid (bb6.out.stay hb)
    have B_W12 := Lib.hid (show Since w11 W12 from hb)
    clear hW hg hb
    have a0 := bb6.out.cell0
    have a1 := bb6.out.cell1
    go_wp2_with fail
    refine (root_Of _ z2 k W12 HU2.out (by have := HLB.out; omega) HKE.out.1 (by have := HKE.out.2; omega) HO2.out).mono ?_
    rintro e w13 ⟨uy, rfl, hy, hb⟩
    obtain ⟨by_, Ay, ly, cy, rfl, HY⟩ := hy.open
    clear hy a0 a1 B_W12 S_W12 G_gx
    replace HU1 := Lib.hid (HU1.out.stay hb)
    replace HB := Lib.hid (HB.out.stay hb)
    replace HX := Lib.hid (HX.out.stay hb)
    replace ba5 := Lib.hid (ba5.out.stay hb)
    replace bxx := Lib.hid (bxx.out.stay hb)
    clear hb
    replace HY := Lib.hid HY.out.int
    go_upto_region 10 with (fail)
    obtain ⟨W14, gy, hW, hg, byy, G_gy, S_W14, hb⟩ := boxH w13 (.bool by_) (.slice Ay ly cy)
    rw [hW, hg]
    replace HU1 := Lib.hid (HU1.out.stay hb)
    replace HB := Lib.hid (HB.out.stay hb)
    replace HX := Lib.hid (HX.out.stay hb)
    replace HY := Lib.hid (HY.out.stay hb)
    replace ba5 := Lib.hid (ba5.out.stay hb)
    replace bxx := Lib.hid (bxx.out.stay hb)
    have B_W14 := Lib.hid (show Since w13 W14 from hb)
    clear hW hg hb
    clear G_gy S_W14 B_W14
    have HLX := Lib.hid (show lc (rootZ k z1).natAbs ≤ 12 from Nat.le_trans (lc_mono (rootZ_le HKE.out.1)) HLA.out)
    have HLY := Lib.hid (show lc (rootZ k z2).natAbs ≤ 12 from Nat.le_trans (lc_mono (rootZ_le HKE.out.1)) HLB.out)
    have a0 := bxx.out.cell0
    have a1 := bxx.out.cell1
    have o0 := byy.out.cell0
    have o1 := byy.out.cell1
    go_wp2_with fail
    refine (limb_Cmp _ _ _ _ W14 HX.out HY.out (by have := HLX.out; omega) (by have := HLY.out; omega)).mono ?_
    rintro e w15 ⟨rfl, hb⟩
    clear a0 a1 o0 o1 HY byy
    replace HU1 := Lib.hid (HU1.out.stay hb)
    replace HX := Lib.hid (HX.out.stay hb)
    replace HB := Lib.hid (HB.out.stay hb)
    replace ba5 := Lib.hid (ba5.out.stay hb)
    replace bxx := Lib.hid (bxx.out.stay hb)
    clear hb
    have h3 := cmp_three z1 z2 (rootZ k z1) (rootZ k z2) (fun h => rootZ_mono HKE.out.1 h) (fun h => rootZ_mono HKE.out.1 h)
    rw [HCC.out] at h3
    obtain ⟨dd, hdd⟩ : ∃ dd, cmpZ (rootZ k z1) (rootZ k z2) = dd := ⟨_, rfl⟩
    rw [hdd] at h3 ⊢
    clear hdd HCC
    rcases h3 with ⟨h31, h32⟩ | ⟨h31, h32⟩ | ⟨h31, h32⟩
    · have h33 : cc ≤ 0 := by omega
      have h34 : ¬ 0 ≤ cc := by omega
      have h35 : ¬ 0 < dd := by omega
      clear h31 h32
      go_upto_region 13 with (fail)
      have HLS := Lib.hid (show lc (z1 + 1).natAbs ≤ 13 by
        have h1 := lc_add (z1).natAbs 1
        have h2 := lc_mono (show (z1 + 1).natAbs ≤ (z1).natAbs + 1 by omega)
        have h3 := lc_limb (x := 1) (by rw [W64_eq]; omega)
        have := HLA.out
        omega)
      go_cut [15, 16] (fun t15 t16 wx => ∃ (g18 : Nat) (b17 : Bool) (A17 : Option Addr) (l17 c17 : Nat), t15 = .pointer (some ⟨g18, 0, none⟩) ∧ t16 = .int .i64 0 ∧ Hid (Box2 wx g18 (.bool b17) (.slice A17 l17 c17)) ∧ Hid (IntV wx (.agg #[.bool b17, .slice A17 l17 c17]) (z1 + 1)) ∧ Hid (IntV wx (.agg #[.bool bx, .slice Ax lx cx]) (rootZ k z1)) ∧ Hid (Since w wx) ∧ Hid (Box2 wx gx (.bool bx) (.slice Ax lx cx)))
      case first =>
        have r0 := later_cell ba5.out.cell0
        have r1 := later_cell ba5.out.cell1
        refine wp_region_forks (fun w' => ∃ δ : Later Nix w15, w' = δ.world) (.read 0 (.both 1 (.both 2 (.read 3 (.read 4 (.read 5 (.loud 6 (.loud 7 .done))))) 6 (.loud 2 (.read 3 (.read 4 (.read 5 (.loud 7 .done)))))) 6 (.loud 1 (.loud 2 (.read 3 (.read 4 (.read 5 (.loud 7 .done)))))))) 8 (.read _ (.both _ (.both _ (.read _ (.read _ (.read _ (.loud _ (.loud _ .done))))) _ (.loud _ (.read _ (.read _ (.read _ (.loud _ .done)))))) _ (.loud _ (.loud _ (.read _ (.read _ (.read _ (.loud _ .done)))))))) [_] (by kernel_rfl) (by kernel_rfl) rfl rfl ?_ ?_
        · exact ⟨⟨_, nix_drawn w15⟩, rfl⟩
        repeat (refine wpTree_read ?_; go_big_quiet_step (fail); refine wpQuiet_nil ?_)
        have ex : Ext Nix w15 (w15.drewN 1) := nix_drawn w15
        have L_bxx := Lib.hid bxx.out.lt
        have H0_w15 := Lib.hid HB.out.size
        have hb : Below w15.heap.size w15 (w15.drewN 1) := below_drewN (Below.refl _ _) 1
        replace HB := Lib.hid (HB.out.stay hb)
        replace HU1 := Lib.hid (HU1.out.stay hb)
        replace HX := Lib.hid (HX.out.stay hb)
        replace bxx := Lib.hid (bxx.out.stay hb)
        clear hb
        refine wpTree_both rfl rfl ?_ ?_
        · intro K hK
          go_big_op
          refine (law18_whole false 1 _ (by rw [W64_eq]; omega)).mono ?_
          rintro e w16 ⟨u16, rfl, h16, hb⟩
          replace ex : Ext Nix w15 w16 := ex.later (Ext.of_below hb)
          replace HU1 := Lib.hid (HU1.out.stay hb)
          replace HX := Lib.hid (HX.out.stay hb)
          replace HB := Lib.hid (HB.out.stay hb)
          replace bxx := Lib.hid (bxx.out.stay hb)
          have HHA := Lib.hid hb
          clear hb
          rw [← raw_one] at h16
          have HO := Lib.hid h16.int
          clear h16
          refine hK _ _ ⟨⟨_, ex⟩, rfl⟩ ?_
          clear hK K
          refine wpTree_both rfl rfl ?_ ?_
          · intro K hK
            go_big_op
            refine (limb_Add _ _ z1 1 w16 HU1.out HO.out (by have := HLA.out; omega) (Nat.le_trans (lc_limb (by rw [W64_eq]; decide)) (by omega))).mono ?_
            rintro e w17 ⟨u17, rfl, h17, hb⟩
            replace ex : Ext Nix w15 w17 := ex.later (Ext.of_below hb)
            replace HX := Lib.hid (HX.out.stay hb)
            replace HB := Lib.hid (HB.out.stay hb)
            replace bxx := Lib.hid (bxx.out.stay hb)
            have HHB := Lib.hid hb
            clear hb HU1 HO
            rw [longR_ok (by have := HLS.out; omega)] at h17
            obtain ⟨b17, A17, l17, c17, rfl, H17⟩ := h17.open
            replace H17 := Lib.hid H17.out.int
            clear h17
            rw [longE_ok (by have := HLS.out; omega)]
            refine hK _ _ ⟨⟨_, ex⟩, rfl⟩ ?_
            clear hK K
            repeat (refine wpTree_read ?_; go_big_quiet_step (fail); refine wpQuiet_nil ?_)
            refine wpTree_loud rfl ?_
            intro K hK
            go_big_op
            obtain ⟨W18, g18, hW, hg, b18x, G_g18, S_W18, hb⟩ := boxH w17 (.bool false) (.slice none 0 0)
            first
            | rw [hW, hg]
            | (have hg' : (w15).heap.size = g18 := hg
               rw [hW, hg'])
            have HG_g18 := Lib.hid (show (w15).heap.size ≤ g18 by have h1 := ex.size; have h2 := G_g18.out; omega)
            replace ex : Ext Nix w15 W18 := ex.later (Ext.of_below hb)
            replace HB := Lib.hid (HB.out.stay hb)
            replace HX := Lib.hid (HX.out.stay hb)
            replace H17 := Lib.hid (H17.out.stay hb)
            replace bxx := Lib.hid (bxx.out.stay hb)
            clear hW hg hb G_g18 S_W18
            refine hK _ _ ⟨⟨_, ex⟩, rfl⟩ ?_
            clear hK K
            refine wpTree_loud rfl ?_
            intro K hK
            have d0 := b18x.out.cell0
            have d1 := b18x.out.cell1
            have fr := b18x.out.free
            go_big_op
            clear d0 d1 fr
            obtain ⟨W19, hW, bz', p⟩ := b18x.out.write (.bool b17) (.slice A17 l17 c17)
            rw [hW]
            replace ex : Ext Nix w15 W19 := ex.hidden p.ext HG_g18.out
            replace b18x := bz'
            replace HX := Lib.hid (HX.out.put p)
            replace H17 := Lib.hid (H17.out.put p)
            replace bxx := Lib.hid (bxx.out.put p (Nat.ne_of_lt (Nat.lt_of_lt_of_le L_bxx.out HG_g18.out)))
            replace HB := Lib.hid (HB.out.put p (Nat.le_trans H0_w15.out HG_g18.out))
            clear hW p
            refine hK _ _ ⟨⟨_, ex⟩, rfl⟩ ?_
            clear hK K
            refine wpTree_done ?_
            go_wp2_with fail
            go_meet
            exact ⟨g18, b17, A17, l17, c17, rfl, rfl, b18x, H17, HX, HB, bxx⟩
          · intro K hK
            go_big_op
            obtain ⟨W18, g18, hW, hg, b18x, G_g18, S_W18, hb⟩ := boxH w16 (.bool false) (.slice none 0 0)
            first
            | rw [hW, hg]
            | (have hg' : (w15).heap.size = g18 := hg
               rw [hW, hg'])
            have HG_g18 := Lib.hid (show (w15).heap.size ≤ g18 by have h1 := ex.size; have h2 := G_g18.out; omega)
            replace ex : Ext Nix w15 W18 := ex.later (Ext.of_below hb)
            replace HB := Lib.hid (HB.out.stay hb)
            replace HX := Lib.hid (HX.out.stay hb)
            replace HU1 := Lib.hid (HU1.out.stay hb)
            replace HO := Lib.hid (HO.out.stay hb)
            replace bxx := Lib.hid (bxx.out.stay hb)
            clear hW hg hb G_g18 S_W18
            refine hK _ _ ⟨⟨_, ex⟩, rfl⟩ ?_
            clear hK K
            refine wpTree_loud rfl ?_
            intro K hK
            go_big_op
            refine (limb_Add _ _ z1 1 W18 HU1.out HO.out (by have := HLA.out; omega) (Nat.le_trans (lc_limb (by rw [W64_eq]; decide)) (by omega))).mono ?_
            rintro e w17 ⟨u17, rfl, h17, hb⟩
            replace ex : Ext Nix w15 w17 := ex.later (Ext.of_below hb)
            replace HX := Lib.hid (HX.out.stay hb)
            replace HB := Lib.hid (HB.out.stay hb)
            replace bxx := Lib.hid (bxx.out.stay hb)
            have HHB := Lib.hid hb
            clear hb HU1 HO
            rw [longR_ok (by have := HLS.out; omega)] at h17
            obtain ⟨b17, A17, l17, c17, rfl, H17⟩ := h17.open
            replace H17 := Lib.hid H17.out.int
            clear h17
            rw [longE_ok (by have := HLS.out; omega)]
            refine hK _ _ ⟨⟨_, ex⟩, rfl⟩ ?_
            clear hK K
            replace b18x := Lib.hid (b18x.out.stay HHB.out)
            repeat (refine wpTree_read ?_; go_big_quiet_step (fail); refine wpQuiet_nil ?_)
            refine wpTree_loud rfl ?_
            intro K hK
            have d0 := b18x.out.cell0
            have d1 := b18x.out.cell1
            have fr := b18x.out.free
            go_big_op
            clear d0 d1 fr
            obtain ⟨W19, hW, bz', p⟩ := b18x.out.write (.bool b17) (.slice A17 l17 c17)
            rw [hW]
            replace ex : Ext Nix w15 W19 := ex.hidden p.ext HG_g18.out
            replace b18x := bz'
            replace HX := Lib.hid (HX.out.put p)
            replace H17 := Lib.hid (H17.out.put p)
            replace bxx := Lib.hid (bxx.out.put p (Nat.ne_of_lt (Nat.lt_of_lt_of_le L_bxx.out HG_g18.out)))
            replace HB := Lib.hid (HB.out.put p (Nat.le_trans H0_w15.out HG_g18.out))
            clear hW p
            refine hK _ _ ⟨⟨_, ex⟩, rfl⟩ ?_
            clear hK K
            refine wpTree_done ?_
            go_wp2_with fail
            go_meet
            exact ⟨g18, b17, A17, l17, c17, rfl, rfl, b18x, H17, HX, HB, bxx⟩
        · intro K hK
          go_big_op
          obtain ⟨W18, g18, hW, hg, b18x, G_g18, S_W18, hb⟩ := boxH (w15.drewN 1) (.bool false) (.slice none 0 0)
          first
          | rw [hW, hg]
          | (have hg' : (w15).heap.size = g18 := hg
             rw [hW, hg'])
          have HG_g18 := Lib.hid (show (w15).heap.size ≤ g18 by have h1 := ex.size; have h2 := G_g18.out; omega)
          replace ex : Ext Nix w15 W18 := ex.later (Ext.of_below hb)
          replace HB := Lib.hid (HB.out.stay hb)
          replace HX := Lib.hid (HX.out.stay hb)
          replace HU1 := Lib.hid (HU1.out.stay hb)
          replace bxx := Lib.hid (bxx.out.stay hb)
          clear hW hg hb G_g18 S_W18
          refine hK _ _ ⟨⟨_, ex⟩, rfl⟩ ?_
          clear hK K
          refine wpTree_loud rfl ?_
          intro K hK
          go_big_op
          refine (law18_whole false 1 _ (by rw [W64_eq]; omega)).mono ?_
          rintro e w16 ⟨u16, rfl, h16, hb⟩
          replace ex : Ext Nix w15 w16 := ex.later (Ext.of_below hb)
          replace HU1 := Lib.hid (HU1.out.stay hb)
          replace HX := Lib.hid (HX.out.stay hb)
          replace HB := Lib.hid (HB.out.stay hb)
          replace bxx := Lib.hid (bxx.out.stay hb)
          have HHA := Lib.hid hb
          clear hb
          rw [← raw_one] at h16
          have HO := Lib.hid h16.int
          clear h16
          refine hK _ _ ⟨⟨_, ex⟩, rfl⟩ ?_
          clear hK K
          replace b18x := Lib.hid (b18x.out.stay HHA.out)
          refine wpTree_loud rfl ?_
          intro K hK
          go_big_op
          refine (limb_Add _ _ z1 1 w16 HU1.out HO.out (by have := HLA.out; omega) (Nat.le_trans (lc_limb (by rw [W64_eq]; decide)) (by omega))).mono ?_
          rintro e w17 ⟨u17, rfl, h17, hb⟩
          replace ex : Ext Nix w15 w17 := ex.later (Ext.of_below hb)
          replace HX := Lib.hid (HX.out.stay hb)
          replace HB := Lib.hid (HB.out.stay hb)
          replace bxx := Lib.hid (bxx.out.stay hb)
          have HHB := Lib.hid hb
          clear hb HU1 HO
          rw [longR_ok (by have := HLS.out; omega)] at h17
          obtain ⟨b17, A17, l17, c17, rfl, H17⟩ := h17.open
          replace H17 := Lib.hid H17.out.int
          clear h17
          rw [longE_ok (by have := HLS.out; omega)]
          refine hK _ _ ⟨⟨_, ex⟩, rfl⟩ ?_
          clear hK K
          replace b18x := Lib.hid (b18x.out.stay HHB.out)
          repeat (refine wpTree_read ?_; go_big_quiet_step (fail); refine wpQuiet_nil ?_)
          refine wpTree_loud rfl ?_
          intro K hK
          have d0 := b18x.out.cell0
          have d1 := b18x.out.cell1
          have fr := b18x.out.free
          go_big_op
          clear d0 d1 fr
          obtain ⟨W19, hW, bz', p⟩ := b18x.out.write (.bool b17) (.slice A17 l17 c17)
          rw [hW]
          replace ex : Ext Nix w15 W19 := ex.hidden p.ext HG_g18.out
          replace b18x := bz'
          replace HX := Lib.hid (HX.out.put p)
          replace H17 := Lib.hid (H17.out.put p)
          replace bxx := Lib.hid (bxx.out.put p (Nat.ne_of_lt (Nat.lt_of_lt_of_le L_bxx.out HG_g18.out)))
          replace HB := Lib.hid (HB.out.put p (Nat.le_trans H0_w15.out HG_g18.out))
          clear hW p
          refine hK _ _ ⟨⟨_, ex⟩, rfl⟩ ?_
          clear hK K
          refine wpTree_done ?_
          go_wp2_with fail
          go_meet
          exact ⟨g18, b17, A17, l17, c17, rfl, rfl, b18x, H17, HX, HB, bxx⟩
      case rest =>
        clear HX HB bxx HU1
        obtain ⟨g18, b17, A17, l17, c17, rfl, rfl, b18x, H17, HX, HB, bxx⟩ := hcut
        have a0 := b18x.out.cell0
        have a1 := b18x.out.cell1
        go_wp2_with fail
        refine (root_Of _ (z1 + 1) k _ H17.out (by have := HLS.out; omega) HKE.out.1 (by have := HKE.out.2; omega) (fun h => HO1.out (by omega))).mono ?_
        rintro e w19 ⟨u19, rfl, h19, hb⟩
        obtain ⟨b19, A19, l19, c19, rfl, H19⟩ := h19.open
        clear h19 a0 a1 H17 b18x
        replace HX := Lib.hid (HX.out.stay hb)
        replace HB := Lib.hid (HB.out.stay hb)
        replace bxx := Lib.hid (bxx.out.stay hb)
        clear hb
        replace H19 := Lib.hid H19.out.int
        go_upto_region 15 with (fail)
        obtain ⟨W20, g20, hW, hg, b20x, G_g20, S_W20, hb⟩ := boxH w19 (.bool b19) (.slice A19 l19 c19)
        rw [hW, hg]
        replace H19 := Lib.hid (H19.out.stay hb)
        replace HX := Lib.hid (HX.out.stay hb)
        replace HB := Lib.hid (HB.out.stay hb)
        replace bxx := Lib.hid (bxx.out.stay hb)
        have B_W20 := Lib.hid (show Since w19 W20 from hb)
        clear hW hg hb
        clear G_g20 S_W20 B_W20
        have a0 := b20x.out.cell0
        have a1 := b20x.out.cell1
        have o0 := bxx.out.cell0
        have o1 := bxx.out.cell1
        have HST := Lib.hid (rootZ_step HKE.out.1 z1)
        have HLD := Lib.hid (show lc (rootZ k (z1 + 1) - rootZ k z1).natAbs ≤ 4096 by
          refine Nat.le_trans (lc_limb ?_) (show 1 ≤ 4096 by omega)
          rw [W64_eq]
          have := HST.out
          omega)
        go_wp2_with fail
        refine (limb_Sub _ _ _ _ W20 H19.out HX.out (Nat.le_trans (lc_mono (rootZ_le HKE.out.1)) (by have := HLS.out; omega)) (by have := HLX.out; omega)).mono ?_
        rintro e w21 ⟨u21, rfl, h21, hb⟩
        rw [longR_ok HLD.out] at h21
        rw [longE_ok HLD.out]
        clear a0 a1 o0 o1 H19 HX bxx b20x
        replace HB := Lib.hid (HB.out.stay hb)
        clear hb
        obtain ⟨D, hD⟩ : ∃ D, rootZ k (z1 + 1) - rootZ k z1 = D := ⟨_, rfl⟩
        rw [hD] at h21 HST
        obtain ⟨b21, A21, l21, c21, rfl, H21⟩ := h21.open
        replace H21 := Lib.hid H21.out.rawV
        clear h21 hD HLD
        go_upto_region 16 with (fail)
        obtain ⟨W22, g22, hW, hg, b22x, G_g22, S_W22, hb⟩ := boxH w21 (.bool b21) (.slice A21 l21 c21)
        rw [hW, hg]
        replace H21 := Lib.hid (H21.out.stay hb)
        replace HB := Lib.hid (HB.out.stay hb)
        have B_W22 := Lib.hid (show Since w21 W22 from hb)
        clear hW hg hb
        clear G_g22 S_W22 B_W22
        have r0 := later_cell b22x.out.cell0
        have r1 := later_cell b22x.out.cell1
        rcases HST.out with rfl | rfl
        · obtain rfl : l21 = 0 := by have h5 := H21.out.parts.2.1; rw [show rawOf 0 = (false, []) by unfold rawOf; simp [limbs_zero]] at h5; exact h5
          refine wp_region_stages (fun w' => ∃ δ : Later Nix W22, w' = δ.world) [(false, 0), (false, 1), (false, 2), (false, 3), (false, 4), (false, 5), (false, 6), (false, 7), (false, 8), (false, 9), (false, 10), (false, 11), (false, 12), (false, 13), (false, 14), (false, 15), (false, 16), (true, 17), (true, 18)] 19 [.reads [_, _, _, _, _, _, _, _, _, _, _, _, _, _, _, _, _], .loud _, .loud _] [_, _, _] (by kernel_rfl) (by kernel_rfl) rfl rfl ?_ ?_
          · exact ⟨⟨_, nix_drawn W22⟩, rfl⟩
          refine wpStages_reads ?_
          repeat (go_big_quiet_step (fail))
          refine wpQuiet_nil ?_
          refine wpStages_idle rfl ?_
          refine wpStages_idle rfl ?_
          refine wpStages_nil ?_
          go_wp2_with fail
          go_ret
          exact ⟨rfl, below_drewN HB.out 1⟩
        · obtain rfl : l21 = 1 := by have h5 := H21.out.parts.2.1; rw [raw_one] at h5; exact h5
          refine wp_region_stages (fun w' => ∃ δ : Later Nix W22, w' = δ.world) [(false, 0), (false, 1), (false, 2), (false, 3), (false, 4), (false, 5), (false, 6), (false, 7), (false, 8), (false, 9), (false, 10), (false, 11), (false, 12), (false, 13), (false, 14), (false, 15), (false, 16), (true, 17), (true, 18)] 19 [.reads [_, _, _, _, _, _, _, _, _, _, _, _, _, _, _, _, _], .loud _, .loud _] [_, _, _] (by kernel_rfl) (by kernel_rfl) rfl rfl ?_ ?_
          · exact ⟨⟨_, nix_drawn W22⟩, rfl⟩
          refine wpStages_reads ?_
          repeat (go_big_quiet_step (fail))
          refine wpQuiet_nil ?_
          refine wpStages_loud rfl ?_
          intro K hK
          go_big_op
          have ex : Ext Nix W22 (W22.drewN 1) := nix_drawn W22
          have hb : Below W22.heap.size W22 (W22.drewN 1) := below_drewN (Below.refl _ _) 1
          replace H21 := Lib.hid (H21.out.stay hb)
          replace HB := Lib.hid (HB.out.stay hb)
          clear hb
          refine ((law18_whole false 1 _ (by rw [W64_eq]; omega))).mono ?_
          rintro e w23 ⟨u23, rfl, h23, hb⟩
          replace ex : Ext Nix W22 w23 := ex.later (Ext.of_below hb)
          replace H21 := Lib.hid (H21.out.stay hb)
          replace HB := Lib.hid (HB.out.stay hb)
          clear hb
          refine hK _ _ ⟨⟨_, ex⟩, rfl⟩ ?_
          clear hK K
          rw [← raw_one] at h23
          obtain ⟨b23, A23, l23, c23, rfl, H23⟩ := h23.open
          clear h23
          refine wpStages_loud rfl ?_
          intro K hK
          go_big_op
          refine ((kit_raw _ _ _ _ _ H21.out H23.out (by rw [raw_one]; simp))).mono ?_
          rintro e w24 ⟨rfl, hb⟩
          replace ex : Ext Nix W22 w24 := ex.later (Ext.of_below hb)
          replace HB := Lib.hid (HB.out.stay hb)
          clear hb
          refine hK _ _ ⟨⟨_, ex⟩, rfl⟩ ?_
          clear hK K
          refine wpStages_nil ?_
          rw [decide_eq_true rfl]
          go_wp2_with fail
          go_ret
          exact ⟨rfl, HB.out⟩
    · subst h31
      subst h32
      go_upto_region 13 with (fail)
      have HLS := Lib.hid (show lc (z1 + 1).natAbs ≤ 13 by
        have h1 := lc_add (z1).natAbs 1
        have h2 := lc_mono (show (z1 + 1).natAbs ≤ (z1).natAbs + 1 by omega)
        have h3 := lc_limb (x := 1) (by rw [W64_eq]; omega)
        have := HLA.out
        omega)
      go_cut [15, 16] (fun t15 t16 wx => ∃ (g18 : Nat) (b17 : Bool) (A17 : Option Addr) (l17 c17 : Nat), t15 = .pointer (some ⟨g18, 0, none⟩) ∧ t16 = .int .i64 0 ∧ Hid (Box2 wx g18 (.bool b17) (.slice A17 l17 c17)) ∧ Hid (IntV wx (.agg #[.bool b17, .slice A17 l17 c17]) (z1 + 1)) ∧ Hid (IntV wx (.agg #[.bool bx, .slice Ax lx cx]) (rootZ k z1)) ∧ Hid (Since w wx) ∧ Hid (Box2 wx gx (.bool bx) (.slice Ax lx cx)))
      case first =>
        have r0 := later_cell ba5.out.cell0
        have r1 := later_cell ba5.out.cell1
        refine wp_region_forks (fun w' => ∃ δ : Later Nix w15, w' = δ.world) (.read 0 (.both 1 (.both 2 (.read 3 (.read 4 (.read 5 (.loud 6 (.loud 7 .done))))) 6 (.loud 2 (.read 3 (.read 4 (.read 5 (.loud 7 .done)))))) 6 (.loud 1 (.loud 2 (.read 3 (.read 4 (.read 5 (.loud 7 .done)))))))) 8 (.read _ (.both _ (.both _ (.read _ (.read _ (.read _ (.loud _ (.loud _ .done))))) _ (.loud _ (.read _ (.read _ (.read _ (.loud _ .done)))))) _ (.loud _ (.loud _ (.read _ (.read _ (.read _ (.loud _ .done)))))))) [_] (by kernel_rfl) (by kernel_rfl) rfl rfl ?_ ?_
        · exact ⟨⟨_, nix_drawn w15⟩, rfl⟩
        repeat (refine wpTree_read ?_; go_big_quiet_step (fail); refine wpQuiet_nil ?_)
        have ex : Ext Nix w15 (w15.drewN 1) := nix_drawn w15
        have L_bxx := Lib.hid bxx.out.lt
        have H0_w15 := Lib.hid HB.out.size
        have hb : Below w15.heap.size w15 (w15.drewN 1) := below_drewN (Below.refl _ _) 1
        replace HB := Lib.hid (HB.out.stay hb)
        replace HU1 := Lib.hid (HU1.out.stay hb)
        replace HX := Lib.hid (HX.out.stay hb)
        replace bxx := Lib.hid (bxx.out.stay hb)
        clear hb
        refine wpTree_both rfl rfl ?_ ?_
        · intro K hK
          go_big_op
          refine (law18_whole false 1 _ (by rw [W64_eq]; omega)).mono ?_
          rintro e w16 ⟨u16, rfl, h16, hb⟩
          replace ex : Ext Nix w15 w16 := ex.later (Ext.of_below hb)
          replace HU1 := Lib.hid (HU1.out.stay hb)
          replace HX := Lib.hid (HX.out.stay hb)
          replace HB := Lib.hid (HB.out.stay hb)
          replace bxx := Lib.hid (bxx.out.stay hb)
          have HHA := Lib.hid hb
          clear hb
          rw [← raw_one] at h16
          have HO := Lib.hid h16.int
          clear h16
          refine hK _ _ ⟨⟨_, ex⟩, rfl⟩ ?_
          clear hK K
          refine wpTree_both rfl rfl ?_ ?_
          · intro K hK
            go_big_op
            refine (limb_Add _ _ z1 1 w16 HU1.out HO.out (by have := HLA.out; omega) (Nat.le_trans (lc_limb (by rw [W64_eq]; decide)) (by omega))).mono ?_
            rintro e w17 ⟨u17, rfl, h17, hb⟩
            replace ex : Ext Nix w15 w17 := ex.later (Ext.of_below hb)
            replace HX := Lib.hid (HX.out.stay hb)
            replace HB := Lib.hid (HB.out.stay hb)
            replace bxx := Lib.hid (bxx.out.stay hb)
            have HHB := Lib.hid hb
            clear hb HU1 HO
            rw [longR_ok (by have := HLS.out; omega)] at h17
            obtain ⟨b17, A17, l17, c17, rfl, H17⟩ := h17.open
            replace H17 := Lib.hid H17.out.int
            clear h17
            rw [longE_ok (by have := HLS.out; omega)]
            refine hK _ _ ⟨⟨_, ex⟩, rfl⟩ ?_
            clear hK K
            repeat (refine wpTree_read ?_; go_big_quiet_step (fail); refine wpQuiet_nil ?_)
            refine wpTree_loud rfl ?_
            intro K hK
            go_big_op
            obtain ⟨W18, g18, hW, hg, b18x, G_g18, S_W18, hb⟩ := boxH w17 (.bool false) (.slice none 0 0)
            first
            | rw [hW, hg]
            | (have hg' : (w15).heap.size = g18 := hg
               rw [hW, hg'])
            have HG_g18 := Lib.hid (show (w15).heap.size ≤ g18 by have h1 := ex.size; have h2 := G_g18.out; omega)
            replace ex : Ext Nix w15 W18 := ex.later (Ext.of_below hb)
            replace HB := Lib.hid (HB.out.stay hb)
            replace HX := Lib.hid (HX.out.stay hb)
            replace H17 := Lib.hid (H17.out.stay hb)
            replace bxx := Lib.hid (bxx.out.stay hb)
            clear hW hg hb G_g18 S_W18
            refine hK _ _ ⟨⟨_, ex⟩, rfl⟩ ?_
            clear hK K
            refine wpTree_loud rfl ?_
            intro K hK
            have d0 := b18x.out.cell0
            have d1 := b18x.out.cell1
            have fr := b18x.out.free
            go_big_op
            clear d0 d1 fr
            obtain ⟨W19, hW, bz', p⟩ := b18x.out.write (.bool b17) (.slice A17 l17 c17)
            rw [hW]
            replace ex : Ext Nix w15 W19 := ex.hidden p.ext HG_g18.out
            replace b18x := bz'
            replace HX := Lib.hid (HX.out.put p)
            replace H17 := Lib.hid (H17.out.put p)
            replace bxx := Lib.hid (bxx.out.put p (Nat.ne_of_lt (Nat.lt_of_lt_of_le L_bxx.out HG_g18.out)))
            replace HB := Lib.hid (HB.out.put p (Nat.le_trans H0_w15.out HG_g18.out))
            clear hW p
            refine hK _ _ ⟨⟨_, ex⟩, rfl⟩ ?_
            clear hK K
            refine wpTree_done ?_
            go_wp2_with fail
            go_meet
            exact ⟨g18, b17, A17, l17, c17, rfl, rfl, b18x, H17, HX, HB, bxx⟩
          · intro K hK
            go_big_op
            obtain ⟨W18, g18, hW, hg, b18x, G_g18, S_W18, hb⟩ := boxH w16 (.bool false) (.slice none 0 0)
            first
            | rw [hW, hg]
            | (have hg' : (w15).heap.size = g18 := hg
               rw [hW, hg'])
            have HG_g18 := Lib.hid (show (w15).heap.size ≤ g18 by have h1 := ex.size; have h2 := G_g18.out; omega)
            replace ex : Ext Nix w15 W18 := ex.later (Ext.of_below hb)
            replace HB := Lib.hid (HB.out.stay hb)
            replace HX := Lib.hid (HX.out.stay hb)
            replace HU1 := Lib.hid (HU1.out.stay hb)
            replace HO := Lib.hid (HO.out.stay hb)
            replace bxx := Lib.hid (bxx.out.stay hb)
            clear hW hg hb G_g18 S_W18
            refine hK _ _ ⟨⟨_, ex⟩, rfl⟩ ?_
            clear hK K
            refine wpTree_loud rfl ?_
            intro K hK
            go_big_op
            refine (limb_Add _ _ z1 1 W18 HU1.out HO.out (by have := HLA.out; omega) (Nat.le_trans (lc_limb (by rw [W64_eq]; decide)) (by omega))).mono ?_
            rintro e w17 ⟨u17, rfl, h17, hb⟩
            replace ex : Ext Nix w15 w17 := ex.later (Ext.of_below hb)
            replace HX := Lib.hid (HX.out.stay hb)
            replace HB := Lib.hid (HB.out.stay hb)
            replace bxx := Lib.hid (bxx.out.stay hb)
            have HHB := Lib.hid hb
            clear hb HU1 HO
            rw [longR_ok (by have := HLS.out; omega)] at h17
            obtain ⟨b17, A17, l17, c17, rfl, H17⟩ := h17.open
            replace H17 := Lib.hid H17.out.int
            clear h17
            rw [longE_ok (by have := HLS.out; omega)]
            refine hK _ _ ⟨⟨_, ex⟩, rfl⟩ ?_
            clear hK K
            replace b18x := Lib.hid (b18x.out.stay HHB.out)
            repeat (refine wpTree_read ?_; go_big_quiet_step (fail); refine wpQuiet_nil ?_)
            refine wpTree_loud rfl ?_
            intro K hK
            have d0 := b18x.out.cell0
            have d1 := b18x.out.cell1
            have fr := b18x.out.free
            go_big_op
            clear d0 d1 fr
            obtain ⟨W19, hW, bz', p⟩ := b18x.out.write (.bool b17) (.slice A17 l17 c17)
            rw [hW]
            replace ex : Ext Nix w15 W19 := ex.hidden p.ext HG_g18.out
            replace b18x := bz'
            replace HX := Lib.hid (HX.out.put p)
            replace H17 := Lib.hid (H17.out.put p)
            replace bxx := Lib.hid (bxx.out.put p (Nat.ne_of_lt (Nat.lt_of_lt_of_le L_bxx.out HG_g18.out)))
            replace HB := Lib.hid (HB.out.put p (Nat.le_trans H0_w15.out HG_g18.out))
            clear hW p
            refine hK _ _ ⟨⟨_, ex⟩, rfl⟩ ?_
            clear hK K
            refine wpTree_done ?_
            go_wp2_with fail
            go_meet
            exact ⟨g18, b17, A17, l17, c17, rfl, rfl, b18x, H17, HX, HB, bxx⟩
        · intro K hK
          go_big_op
          obtain ⟨W18, g18, hW, hg, b18x, G_g18, S_W18, hb⟩ := boxH (w15.drewN 1) (.bool false) (.slice none 0 0)
          first
          | rw [hW, hg]
          | (have hg' : (w15).heap.size = g18 := hg
             rw [hW, hg'])
          have HG_g18 := Lib.hid (show (w15).heap.size ≤ g18 by have h1 := ex.size; have h2 := G_g18.out; omega)
          replace ex : Ext Nix w15 W18 := ex.later (Ext.of_below hb)
          replace HB := Lib.hid (HB.out.stay hb)
          replace HX := Lib.hid (HX.out.stay hb)
          replace HU1 := Lib.hid (HU1.out.stay hb)
          replace bxx := Lib.hid (bxx.out.stay hb)
          clear hW hg hb G_g18 S_W18
          refine hK _ _ ⟨⟨_, ex⟩, rfl⟩ ?_
          clear hK K
          refine wpTree_loud rfl ?_
          intro K hK
          go_big_op
          refine (law18_whole false 1 _ (by rw [W64_eq]; omega)).mono ?_
          rintro e w16 ⟨u16, rfl, h16, hb⟩
          replace ex : Ext Nix w15 w16 := ex.later (Ext.of_below hb)
          replace HU1 := Lib.hid (HU1.out.stay hb)
          replace HX := Lib.hid (HX.out.stay hb)
          replace HB := Lib.hid (HB.out.stay hb)
          replace bxx := Lib.hid (bxx.out.stay hb)
          have HHA := Lib.hid hb
          clear hb
          rw [← raw_one] at h16
          have HO := Lib.hid h16.int
          clear h16
          refine hK _ _ ⟨⟨_, ex⟩, rfl⟩ ?_
          clear hK K
          replace b18x := Lib.hid (b18x.out.stay HHA.out)
          refine wpTree_loud rfl ?_
          intro K hK
          go_big_op
          refine (limb_Add _ _ z1 1 w16 HU1.out HO.out (by have := HLA.out; omega) (Nat.le_trans (lc_limb (by rw [W64_eq]; decide)) (by omega))).mono ?_
          rintro e w17 ⟨u17, rfl, h17, hb⟩
          replace ex : Ext Nix w15 w17 := ex.later (Ext.of_below hb)
          replace HX := Lib.hid (HX.out.stay hb)
          replace HB := Lib.hid (HB.out.stay hb)
          replace bxx := Lib.hid (bxx.out.stay hb)
          have HHB := Lib.hid hb
          clear hb HU1 HO
          rw [longR_ok (by have := HLS.out; omega)] at h17
          obtain ⟨b17, A17, l17, c17, rfl, H17⟩ := h17.open
          replace H17 := Lib.hid H17.out.int
          clear h17
          rw [longE_ok (by have := HLS.out; omega)]
          refine hK _ _ ⟨⟨_, ex⟩, rfl⟩ ?_
          clear hK K
          replace b18x := Lib.hid (b18x.out.stay HHB.out)
          repeat (refine wpTree_read ?_; go_big_quiet_step (fail); refine wpQuiet_nil ?_)
          refine wpTree_loud rfl ?_
          intro K hK
          have d0 := b18x.out.cell0
          have d1 := b18x.out.cell1
          have fr := b18x.out.free
          go_big_op
          clear d0 d1 fr
          obtain ⟨W19, hW, bz', p⟩ := b18x.out.write (.bool b17) (.slice A17 l17 c17)
          rw [hW]
          replace ex : Ext Nix w15 W19 := ex.hidden p.ext HG_g18.out
          replace b18x := bz'
          replace HX := Lib.hid (HX.out.put p)
          replace H17 := Lib.hid (H17.out.put p)
          replace bxx := Lib.hid (bxx.out.put p (Nat.ne_of_lt (Nat.lt_of_lt_of_le L_bxx.out HG_g18.out)))
          replace HB := Lib.hid (HB.out.put p (Nat.le_trans H0_w15.out HG_g18.out))
          clear hW p
          refine hK _ _ ⟨⟨_, ex⟩, rfl⟩ ?_
          clear hK K
          refine wpTree_done ?_
          go_wp2_with fail
          go_meet
          exact ⟨g18, b17, A17, l17, c17, rfl, rfl, b18x, H17, HX, HB, bxx⟩
      case rest =>
        clear HX HB bxx HU1
        obtain ⟨g18, b17, A17, l17, c17, rfl, rfl, b18x, H17, HX, HB, bxx⟩ := hcut
        have a0 := b18x.out.cell0
        have a1 := b18x.out.cell1
        go_wp2_with fail
        refine (root_Of _ (z1 + 1) k _ H17.out (by have := HLS.out; omega) HKE.out.1 (by have := HKE.out.2; omega) (fun h => HO1.out (by omega))).mono ?_
        rintro e w19 ⟨u19, rfl, h19, hb⟩
        obtain ⟨b19, A19, l19, c19, rfl, H19⟩ := h19.open
        clear h19 a0 a1 H17 b18x
        replace HX := Lib.hid (HX.out.stay hb)
        replace HB := Lib.hid (HB.out.stay hb)
        replace bxx := Lib.hid (bxx.out.stay hb)
        clear hb
        replace H19 := Lib.hid H19.out.int
        go_upto_region 15 with (fail)
        obtain ⟨W20, g20, hW, hg, b20x, G_g20, S_W20, hb⟩ := boxH w19 (.bool b19) (.slice A19 l19 c19)
        rw [hW, hg]
        replace H19 := Lib.hid (H19.out.stay hb)
        replace HX := Lib.hid (HX.out.stay hb)
        replace HB := Lib.hid (HB.out.stay hb)
        replace bxx := Lib.hid (bxx.out.stay hb)
        have B_W20 := Lib.hid (show Since w19 W20 from hb)
        clear hW hg hb
        clear G_g20 S_W20 B_W20
        have a0 := b20x.out.cell0
        have a1 := b20x.out.cell1
        have o0 := bxx.out.cell0
        have o1 := bxx.out.cell1
        have HST := Lib.hid (rootZ_step HKE.out.1 z1)
        have HLD := Lib.hid (show lc (rootZ k (z1 + 1) - rootZ k z1).natAbs ≤ 4096 by
          refine Nat.le_trans (lc_limb ?_) (show 1 ≤ 4096 by omega)
          rw [W64_eq]
          have := HST.out
          omega)
        go_wp2_with fail
        refine (limb_Sub _ _ _ _ W20 H19.out HX.out (Nat.le_trans (lc_mono (rootZ_le HKE.out.1)) (by have := HLS.out; omega)) (by have := HLX.out; omega)).mono ?_
        rintro e w21 ⟨u21, rfl, h21, hb⟩
        rw [longR_ok HLD.out] at h21
        rw [longE_ok HLD.out]
        clear a0 a1 o0 o1 H19 HX bxx b20x
        replace HB := Lib.hid (HB.out.stay hb)
        clear hb
        obtain ⟨D, hD⟩ : ∃ D, rootZ k (z1 + 1) - rootZ k z1 = D := ⟨_, rfl⟩
        rw [hD] at h21 HST
        obtain ⟨b21, A21, l21, c21, rfl, H21⟩ := h21.open
        replace H21 := Lib.hid H21.out.rawV
        clear h21 hD HLD
        go_upto_region 16 with (fail)
        obtain ⟨W22, g22, hW, hg, b22x, G_g22, S_W22, hb⟩ := boxH w21 (.bool b21) (.slice A21 l21 c21)
        rw [hW, hg]
        replace H21 := Lib.hid (H21.out.stay hb)
        replace HB := Lib.hid (HB.out.stay hb)
        have B_W22 := Lib.hid (show Since w21 W22 from hb)
        clear hW hg hb
        clear G_g22 S_W22 B_W22
        have r0 := later_cell b22x.out.cell0
        have r1 := later_cell b22x.out.cell1
        rcases HST.out with rfl | rfl
        · obtain rfl : l21 = 0 := by have h5 := H21.out.parts.2.1; rw [show rawOf 0 = (false, []) by unfold rawOf; simp [limbs_zero]] at h5; exact h5
          refine wp_region_stages (fun w' => ∃ δ : Later Nix W22, w' = δ.world) [(false, 0), (false, 1), (false, 2), (false, 3), (false, 4), (false, 5), (false, 6), (false, 7), (false, 8), (false, 9), (false, 10), (false, 11), (false, 12), (false, 13), (false, 14), (false, 15), (false, 16), (true, 17), (true, 18)] 19 [.reads [_, _, _, _, _, _, _, _, _, _, _, _, _, _, _, _, _], .loud _, .loud _] [_, _, _] (by kernel_rfl) (by kernel_rfl) rfl rfl ?_ ?_
          · exact ⟨⟨_, nix_drawn W22⟩, rfl⟩
          refine wpStages_reads ?_
          repeat (go_big_quiet_step (fail))
          refine wpQuiet_nil ?_
          refine wpStages_idle rfl ?_
          refine wpStages_idle rfl ?_
          refine wpStages_nil ?_
          go_wp2_with fail
          go_ret
          exact ⟨rfl, below_drewN HB.out 1⟩
        · obtain rfl : l21 = 1 := by have h5 := H21.out.parts.2.1; rw [raw_one] at h5; exact h5
          refine wp_region_stages (fun w' => ∃ δ : Later Nix W22, w' = δ.world) [(false, 0), (false, 1), (false, 2), (false, 3), (false, 4), (false, 5), (false, 6), (false, 7), (false, 8), (false, 9), (false, 10), (false, 11), (false, 12), (false, 13), (false, 14), (false, 15), (false, 16), (true, 17), (true, 18)] 19 [.reads [_, _, _, _, _, _, _, _, _, _, _, _, _, _, _, _, _], .loud _, .loud _] [_, _, _] (by kernel_rfl) (by kernel_rfl) rfl rfl ?_ ?_
          · exact ⟨⟨_, nix_drawn W22⟩, rfl⟩
          refine wpStages_reads ?_
          repeat (go_big_quiet_step (fail))
          refine wpQuiet_nil ?_
          refine wpStages_loud rfl ?_
          intro K hK
          go_big_op
          have ex : Ext Nix W22 (W22.drewN 1) := nix_drawn W22
          have hb : Below W22.heap.size W22 (W22.drewN 1) := below_drewN (Below.refl _ _) 1
          replace H21 := Lib.hid (H21.out.stay hb)
          replace HB := Lib.hid (HB.out.stay hb)
          clear hb
          refine ((law18_whole false 1 _ (by rw [W64_eq]; omega))).mono ?_
          rintro e w23 ⟨u23, rfl, h23, hb⟩
          replace ex : Ext Nix W22 w23 := ex.later (Ext.of_below hb)
          replace H21 := Lib.hid (H21.out.stay hb)
          replace HB := Lib.hid (HB.out.stay hb)
          clear hb
          refine hK _ _ ⟨⟨_, ex⟩, rfl⟩ ?_
          clear hK K
          rw [← raw_one] at h23
          obtain ⟨b23, A23, l23, c23, rfl, H23⟩ := h23.open
          clear h23
          refine wpStages_loud rfl ?_
          intro K hK
          go_big_op
          refine ((kit_raw _ _ _ _ _ H21.out H23.out (by rw [raw_one]; simp))).mono ?_
          rintro e w24 ⟨rfl, hb⟩
          replace ex : Ext Nix W22 w24 := ex.later (Ext.of_below hb)
          replace HB := Lib.hid (HB.out.stay hb)
          clear hb
          refine hK _ _ ⟨⟨_, ex⟩, rfl⟩ ?_
          clear hK K
          refine wpStages_nil ?_
          rw [decide_eq_true rfl]
          go_wp2_with fail
          go_ret
          exact ⟨rfl, HB.out⟩
    · have h33 : ¬ cc ≤ 0 := by omega
      have h34 : 0 ≤ cc := by omega
      have h35 : ¬ dd < 0 := by omega
      clear h31 h32
      go_upto_region 13 with (fail)
      have HLS := Lib.hid (show lc (z1 + 1).natAbs ≤ 13 by
        have h1 := lc_add (z1).natAbs 1
        have h2 := lc_mono (show (z1 + 1).natAbs ≤ (z1).natAbs + 1 by omega)
        have h3 := lc_limb (x := 1) (by rw [W64_eq]; omega)
        have := HLA.out
        omega)
      go_cut [15, 16] (fun t15 t16 wx => ∃ (g18 : Nat) (b17 : Bool) (A17 : Option Addr) (l17 c17 : Nat), t15 = .pointer (some ⟨g18, 0, none⟩) ∧ t16 = .int .i64 0 ∧ Hid (Box2 wx g18 (.bool b17) (.slice A17 l17 c17)) ∧ Hid (IntV wx (.agg #[.bool b17, .slice A17 l17 c17]) (z1 + 1)) ∧ Hid (IntV wx (.agg #[.bool bx, .slice Ax lx cx]) (rootZ k z1)) ∧ Hid (Since w wx) ∧ Hid (Box2 wx gx (.bool bx) (.slice Ax lx cx)))
      case first =>
        have r0 := later_cell ba5.out.cell0
        have r1 := later_cell ba5.out.cell1
        refine wp_region_forks (fun w' => ∃ δ : Later Nix w15, w' = δ.world) (.read 0 (.both 1 (.both 2 (.read 3 (.read 4 (.read 5 (.loud 6 (.loud 7 .done))))) 6 (.loud 2 (.read 3 (.read 4 (.read 5 (.loud 7 .done)))))) 6 (.loud 1 (.loud 2 (.read 3 (.read 4 (.read 5 (.loud 7 .done)))))))) 8 (.read _ (.both _ (.both _ (.read _ (.read _ (.read _ (.loud _ (.loud _ .done))))) _ (.loud _ (.read _ (.read _ (.read _ (.loud _ .done)))))) _ (.loud _ (.loud _ (.read _ (.read _ (.read _ (.loud _ .done)))))))) [_] (by kernel_rfl) (by kernel_rfl) rfl rfl ?_ ?_
        · exact ⟨⟨_, nix_drawn w15⟩, rfl⟩
        repeat (refine wpTree_read ?_; go_big_quiet_step (fail); refine wpQuiet_nil ?_)
        have ex : Ext Nix w15 (w15.drewN 1) := nix_drawn w15
        have L_bxx := Lib.hid bxx.out.lt
        have H0_w15 := Lib.hid HB.out.size
        have hb : Below w15.heap.size w15 (w15.drewN 1) := below_drewN (Below.refl _ _) 1
        replace HB := Lib.hid (HB.out.stay hb)
        replace HU1 := Lib.hid (HU1.out.stay hb)
        replace HX := Lib.hid (HX.out.stay hb)
        replace bxx := Lib.hid (bxx.out.stay hb)
        clear hb
        refine wpTree_both rfl rfl ?_ ?_
        · intro K hK
          go_big_op
          refine (law18_whole false 1 _ (by rw [W64_eq]; omega)).mono ?_
          rintro e w16 ⟨u16, rfl, h16, hb⟩
          replace ex : Ext Nix w15 w16 := ex.later (Ext.of_below hb)
          replace HU1 := Lib.hid (HU1.out.stay hb)
          replace HX := Lib.hid (HX.out.stay hb)
          replace HB := Lib.hid (HB.out.stay hb)
          replace bxx := Lib.hid (bxx.out.stay hb)
          have HHA := Lib.hid hb
          clear hb
          rw [← raw_one] at h16
          have HO := Lib.hid h16.int
          clear h16
          refine hK _ _ ⟨⟨_, ex⟩, rfl⟩ ?_
          clear hK K
          refine wpTree_both rfl rfl ?_ ?_
          · intro K hK
            go_big_op
            refine (limb_Add _ _ z1 1 w16 HU1.out HO.out (by have := HLA.out; omega) (Nat.le_trans (lc_limb (by rw [W64_eq]; decide)) (by omega))).mono ?_
            rintro e w17 ⟨u17, rfl, h17, hb⟩
            replace ex : Ext Nix w15 w17 := ex.later (Ext.of_below hb)
            replace HX := Lib.hid (HX.out.stay hb)
            replace HB := Lib.hid (HB.out.stay hb)
            replace bxx := Lib.hid (bxx.out.stay hb)
            have HHB := Lib.hid hb
            clear hb HU1 HO
            rw [longR_ok (by have := HLS.out; omega)] at h17
            obtain ⟨b17, A17, l17, c17, rfl, H17⟩ := h17.open
            replace H17 := Lib.hid H17.out.int
            clear h17
            rw [longE_ok (by have := HLS.out; omega)]
            refine hK _ _ ⟨⟨_, ex⟩, rfl⟩ ?_
            clear hK K
            repeat (refine wpTree_read ?_; go_big_quiet_step (fail); refine wpQuiet_nil ?_)
            refine wpTree_loud rfl ?_
            intro K hK
            go_big_op
            obtain ⟨W18, g18, hW, hg, b18x, G_g18, S_W18, hb⟩ := boxH w17 (.bool false) (.slice none 0 0)
            first
            | rw [hW, hg]
            | (have hg' : (w15).heap.size = g18 := hg
               rw [hW, hg'])
            have HG_g18 := Lib.hid (show (w15).heap.size ≤ g18 by have h1 := ex.size; have h2 := G_g18.out; omega)
            replace ex : Ext Nix w15 W18 := ex.later (Ext.of_below hb)
            replace HB := Lib.hid (HB.out.stay hb)
            replace HX := Lib.hid (HX.out.stay hb)
            replace H17 := Lib.hid (H17.out.stay hb)
            replace bxx := Lib.hid (bxx.out.stay hb)
            clear hW hg hb G_g18 S_W18
            refine hK _ _ ⟨⟨_, ex⟩, rfl⟩ ?_
            clear hK K
            refine wpTree_loud rfl ?_
            intro K hK
            have d0 := b18x.out.cell0
            have d1 := b18x.out.cell1
            have fr := b18x.out.free
            go_big_op
            clear d0 d1 fr
            obtain ⟨W19, hW, bz', p⟩ := b18x.out.write (.bool b17) (.slice A17 l17 c17)
            rw [hW]
            replace ex : Ext Nix w15 W19 := ex.hidden p.ext HG_g18.out
            replace b18x := bz'
            replace HX := Lib.hid (HX.out.put p)
            replace H17 := Lib.hid (H17.out.put p)
            replace bxx := Lib.hid (bxx.out.put p (Nat.ne_of_lt (Nat.lt_of_lt_of_le L_bxx.out HG_g18.out)))
            replace HB := Lib.hid (HB.out.put p (Nat.le_trans H0_w15.out HG_g18.out))
            clear hW p
            refine hK _ _ ⟨⟨_, ex⟩, rfl⟩ ?_
            clear hK K
            refine wpTree_done ?_
            go_wp2_with fail
            go_meet
            exact ⟨g18, b17, A17, l17, c17, rfl, rfl, b18x, H17, HX, HB, bxx⟩
          · intro K hK
            go_big_op
            obtain ⟨W18, g18, hW, hg, b18x, G_g18, S_W18, hb⟩ := boxH w16 (.bool false) (.slice none 0 0)
            first
            | rw [hW, hg]
            | (have hg' : (w15).heap.size = g18 := hg
               rw [hW, hg'])
            have HG_g18 := Lib.hid (show (w15).heap.size ≤ g18 by have h1 := ex.size; have h2 := G_g18.out; omega)
            replace ex : Ext Nix w15 W18 := ex.later (Ext.of_below hb)
            replace HB := Lib.hid (HB.out.stay hb)
            replace HX := Lib.hid (HX.out.stay hb)
            replace HU1 := Lib.hid (HU1.out.stay hb)
            replace HO := Lib.hid (HO.out.stay hb)
            replace bxx := Lib.hid (bxx.out.stay hb)
            clear hW hg hb G_g18 S_W18
            refine hK _ _ ⟨⟨_, ex⟩, rfl⟩ ?_
            clear hK K
            refine wpTree_loud rfl ?_
            intro K hK
            go_big_op
            refine (limb_Add _ _ z1 1 W18 HU1.out HO.out (by have := HLA.out; omega) (Nat.le_trans (lc_limb (by rw [W64_eq]; decide)) (by omega))).mono ?_
            rintro e w17 ⟨u17, rfl, h17, hb⟩
            replace ex : Ext Nix w15 w17 := ex.later (Ext.of_below hb)
            replace HX := Lib.hid (HX.out.stay hb)
            replace HB := Lib.hid (HB.out.stay hb)
            replace bxx := Lib.hid (bxx.out.stay hb)
            have HHB := Lib.hid hb
            clear hb HU1 HO
            rw [longR_ok (by have := HLS.out; omega)] at h17
            obtain ⟨b17, A17, l17, c17, rfl, H17⟩ := h17.open
            replace H17 := Lib.hid H17.out.int
            clear h17
            rw [longE_ok (by have := HLS.out; omega)]
            refine hK _ _ ⟨⟨_, ex⟩, rfl⟩ ?_
            clear hK K
            replace b18x := Lib.hid (b18x.out.stay HHB.out)
            repeat (refine wpTree_read ?_; go_big_quiet_step (fail); refine wpQuiet_nil ?_)
            refine wpTree_loud rfl ?_
            intro K hK
            have d0 := b18x.out.cell0
            have d1 := b18x.out.cell1
            have fr := b18x.out.free
            go_big_op
            clear d0 d1 fr
            obtain ⟨W19, hW, bz', p⟩ := b18x.out.write (.bool b17) (.slice A17 l17 c17)
            rw [hW]
            replace ex : Ext Nix w15 W19 := ex.hidden p.ext HG_g18.out
            replace b18x := bz'
            replace HX := Lib.hid (HX.out.put p)
            replace H17 := Lib.hid (H17.out.put p)
            replace bxx := Lib.hid (bxx.out.put p (Nat.ne_of_lt (Nat.lt_of_lt_of_le L_bxx.out HG_g18.out)))
            replace HB := Lib.hid (HB.out.put p (Nat.le_trans H0_w15.out HG_g18.out))
            clear hW p
            refine hK _ _ ⟨⟨_, ex⟩, rfl⟩ ?_
            clear hK K
            refine wpTree_done ?_
            go_wp2_with fail
            go_meet
            exact ⟨g18, b17, A17, l17, c17, rfl, rfl, b18x, H17, HX, HB, bxx⟩
        · intro K hK
          go_big_op
          obtain ⟨W18, g18, hW, hg, b18x, G_g18, S_W18, hb⟩ := boxH (w15.drewN 1) (.bool false) (.slice none 0 0)
          first
          | rw [hW, hg]
          | (have hg' : (w15).heap.size = g18 := hg
             rw [hW, hg'])
          have HG_g18 := Lib.hid (show (w15).heap.size ≤ g18 by have h1 := ex.size; have h2 := G_g18.out; omega)
          replace ex : Ext Nix w15 W18 := ex.later (Ext.of_below hb)
          replace HB := Lib.hid (HB.out.stay hb)
          replace HX := Lib.hid (HX.out.stay hb)
          replace HU1 := Lib.hid (HU1.out.stay hb)
          replace bxx := Lib.hid (bxx.out.stay hb)
          clear hW hg hb G_g18 S_W18
          refine hK _ _ ⟨⟨_, ex⟩, rfl⟩ ?_
          clear hK K
          refine wpTree_loud rfl ?_
          intro K hK
          go_big_op
          refine (law18_whole false 1 _ (by rw [W64_eq]; omega)).mono ?_
          rintro e w16 ⟨u16, rfl, h16, hb⟩
          replace ex : Ext Nix w15 w16 := ex.later (Ext.of_below hb)
          replace HU1 := Lib.hid (HU1.out.stay hb)
          replace HX := Lib.hid (HX.out.stay hb)
          replace HB := Lib.hid (HB.out.stay hb)
          replace bxx := Lib.hid (bxx.out.stay hb)
          have HHA := Lib.hid hb
          clear hb
          rw [← raw_one] at h16
          have HO := Lib.hid h16.int
          clear h16
          refine hK _ _ ⟨⟨_, ex⟩, rfl⟩ ?_
          clear hK K
          replace b18x := Lib.hid (b18x.out.stay HHA.out)
          refine wpTree_loud rfl ?_
          intro K hK
          go_big_op
          refine (limb_Add _ _ z1 1 w16 HU1.out HO.out (by have := HLA.out; omega) (Nat.le_trans (lc_limb (by rw [W64_eq]; decide)) (by omega))).mono ?_
          rintro e w17 ⟨u17, rfl, h17, hb⟩
          replace ex : Ext Nix w15 w17 := ex.later (Ext.of_below hb)
          replace HX := Lib.hid (HX.out.stay hb)
          replace HB := Lib.hid (HB.out.stay hb)
          replace bxx := Lib.hid (bxx.out.stay hb)
          have HHB := Lib.hid hb
          clear hb HU1 HO
          rw [longR_ok (by have := HLS.out; omega)] at h17
          obtain ⟨b17, A17, l17, c17, rfl, H17⟩ := h17.open
          replace H17 := Lib.hid H17.out.int
          clear h17
          rw [longE_ok (by have := HLS.out; omega)]
          refine hK _ _ ⟨⟨_, ex⟩, rfl⟩ ?_
          clear hK K
          replace b18x := Lib.hid (b18x.out.stay HHB.out)
          repeat (refine wpTree_read ?_; go_big_quiet_step (fail); refine wpQuiet_nil ?_)
          refine wpTree_loud rfl ?_
          intro K hK
          have d0 := b18x.out.cell0
          have d1 := b18x.out.cell1
          have fr := b18x.out.free
          go_big_op
          clear d0 d1 fr
          obtain ⟨W19, hW, bz', p⟩ := b18x.out.write (.bool b17) (.slice A17 l17 c17)
          rw [hW]
          replace ex : Ext Nix w15 W19 := ex.hidden p.ext HG_g18.out
          replace b18x := bz'
          replace HX := Lib.hid (HX.out.put p)
          replace H17 := Lib.hid (H17.out.put p)
          replace bxx := Lib.hid (bxx.out.put p (Nat.ne_of_lt (Nat.lt_of_lt_of_le L_bxx.out HG_g18.out)))
          replace HB := Lib.hid (HB.out.put p (Nat.le_trans H0_w15.out HG_g18.out))
          clear hW p
          refine hK _ _ ⟨⟨_, ex⟩, rfl⟩ ?_
          clear hK K
          refine wpTree_done ?_
          go_wp2_with fail
          go_meet
          exact ⟨g18, b17, A17, l17, c17, rfl, rfl, b18x, H17, HX, HB, bxx⟩
      case rest =>
        clear HX HB bxx HU1
        obtain ⟨g18, b17, A17, l17, c17, rfl, rfl, b18x, H17, HX, HB, bxx⟩ := hcut
        have a0 := b18x.out.cell0
        have a1 := b18x.out.cell1
        go_wp2_with fail
        refine (root_Of _ (z1 + 1) k _ H17.out (by have := HLS.out; omega) HKE.out.1 (by have := HKE.out.2; omega) (fun h => HO1.out (by omega))).mono ?_
        rintro e w19 ⟨u19, rfl, h19, hb⟩
        obtain ⟨b19, A19, l19, c19, rfl, H19⟩ := h19.open
        clear h19 a0 a1 H17 b18x
        replace HX := Lib.hid (HX.out.stay hb)
        replace HB := Lib.hid (HB.out.stay hb)
        replace bxx := Lib.hid (bxx.out.stay hb)
        clear hb
        replace H19 := Lib.hid H19.out.int
        go_upto_region 15 with (fail)
        obtain ⟨W20, g20, hW, hg, b20x, G_g20, S_W20, hb⟩ := boxH w19 (.bool b19) (.slice A19 l19 c19)
        rw [hW, hg]
        replace H19 := Lib.hid (H19.out.stay hb)
        replace HX := Lib.hid (HX.out.stay hb)
        replace HB := Lib.hid (HB.out.stay hb)
        replace bxx := Lib.hid (bxx.out.stay hb)
        have B_W20 := Lib.hid (show Since w19 W20 from hb)
        clear hW hg hb
        clear G_g20 S_W20 B_W20
        have a0 := b20x.out.cell0
        have a1 := b20x.out.cell1
        have o0 := bxx.out.cell0
        have o1 := bxx.out.cell1
        have HST := Lib.hid (rootZ_step HKE.out.1 z1)
        have HLD := Lib.hid (show lc (rootZ k (z1 + 1) - rootZ k z1).natAbs ≤ 4096 by
          refine Nat.le_trans (lc_limb ?_) (show 1 ≤ 4096 by omega)
          rw [W64_eq]
          have := HST.out
          omega)
        go_wp2_with fail
        refine (limb_Sub _ _ _ _ W20 H19.out HX.out (Nat.le_trans (lc_mono (rootZ_le HKE.out.1)) (by have := HLS.out; omega)) (by have := HLX.out; omega)).mono ?_
        rintro e w21 ⟨u21, rfl, h21, hb⟩
        rw [longR_ok HLD.out] at h21
        rw [longE_ok HLD.out]
        clear a0 a1 o0 o1 H19 HX bxx b20x
        replace HB := Lib.hid (HB.out.stay hb)
        clear hb
        obtain ⟨D, hD⟩ : ∃ D, rootZ k (z1 + 1) - rootZ k z1 = D := ⟨_, rfl⟩
        rw [hD] at h21 HST
        obtain ⟨b21, A21, l21, c21, rfl, H21⟩ := h21.open
        replace H21 := Lib.hid H21.out.rawV
        clear h21 hD HLD
        go_upto_region 16 with (fail)
        obtain ⟨W22, g22, hW, hg, b22x, G_g22, S_W22, hb⟩ := boxH w21 (.bool b21) (.slice A21 l21 c21)
        rw [hW, hg]
        replace H21 := Lib.hid (H21.out.stay hb)
        replace HB := Lib.hid (HB.out.stay hb)
        have B_W22 := Lib.hid (show Since w21 W22 from hb)
        clear hW hg hb
        clear G_g22 S_W22 B_W22
        have r0 := later_cell b22x.out.cell0
        have r1 := later_cell b22x.out.cell1
        rcases HST.out with rfl | rfl
        · obtain rfl : l21 = 0 := by have h5 := H21.out.parts.2.1; rw [show rawOf 0 = (false, []) by unfold rawOf; simp [limbs_zero]] at h5; exact h5
          refine wp_region_stages (fun w' => ∃ δ : Later Nix W22, w' = δ.world) [(false, 0), (false, 1), (false, 2), (false, 3), (false, 4), (false, 5), (false, 6), (false, 7), (false, 8), (false, 9), (false, 10), (false, 11), (false, 12), (false, 13), (false, 14), (false, 15), (false, 16), (true, 17), (true, 18)] 19 [.reads [_, _, _, _, _, _, _, _, _, _, _, _, _, _, _, _, _], .loud _, .loud _] [_, _, _] (by kernel_rfl) (by kernel_rfl) rfl rfl ?_ ?_
          · exact ⟨⟨_, nix_drawn W22⟩, rfl⟩
          refine wpStages_reads ?_
          repeat (go_big_quiet_step (fail))
          refine wpQuiet_nil ?_
          refine wpStages_idle rfl ?_
          refine wpStages_idle rfl ?_
          refine wpStages_nil ?_
          go_wp2_with fail
          go_ret
          exact ⟨rfl, below_drewN HB.out 1⟩
        · obtain rfl : l21 = 1 := by have h5 := H21.out.parts.2.1; rw [raw_one] at h5; exact h5
          refine wp_region_stages (fun w' => ∃ δ : Later Nix W22, w' = δ.world) [(false, 0), (false, 1), (false, 2), (false, 3), (false, 4), (false, 5), (false, 6), (false, 7), (false, 8), (false, 9), (false, 10), (false, 11), (false, 12), (false, 13), (false, 14), (false, 15), (false, 16), (true, 17), (true, 18)] 19 [.reads [_, _, _, _, _, _, _, _, _, _, _, _, _, _, _, _, _], .loud _, .loud _] [_, _, _] (by kernel_rfl) (by kernel_rfl) rfl rfl ?_ ?_
          · exact ⟨⟨_, nix_drawn W22⟩, rfl⟩
          refine wpStages_reads ?_
          repeat (go_big_quiet_step (fail))
          refine wpQuiet_nil ?_
          refine wpStages_loud rfl ?_
          intro K hK
          go_big_op
          have ex : Ext Nix W22 (W22.drewN 1) := nix_drawn W22
          have hb : Below W22.heap.size W22 (W22.drewN 1) := below_drewN (Below.refl _ _) 1
          replace H21 := Lib.hid (H21.out.stay hb)
          replace HB := Lib.hid (HB.out.stay hb)
          clear hb
          refine ((law18_whole false 1 _ (by rw [W64_eq]; omega))).mono ?_
          rintro e w23 ⟨u23, rfl, h23, hb⟩
          replace ex : Ext Nix W22 w23 := ex.later (Ext.of_below hb)
          replace H21 := Lib.hid (H21.out.stay hb)
          replace HB := Lib.hid (HB.out.stay hb)
          clear hb
          refine hK _ _ ⟨⟨_, ex⟩, rfl⟩ ?_
          clear hK K
          rw [← raw_one] at h23
          obtain ⟨b23, A23, l23, c23, rfl, H23⟩ := h23.open
          clear h23
          refine wpStages_loud rfl ?_
          intro K hK
          go_big_op
          refine ((kit_raw _ _ _ _ _ H21.out H23.out (by rw [raw_one]; simp))).mono ?_
          rintro e w24 ⟨rfl, hb⟩
          replace ex : Ext Nix W22 w24 := ex.later (Ext.of_below hb)
          replace HB := Lib.hid (HB.out.stay hb)
          clear hb
          refine hK _ _ ⟨⟨_, ex⟩, rfl⟩ ?_
          clear hK K
          refine wpStages_nil ?_
          rw [decide_eq_true rfl]
          go_wp2_with fail
          go_ret
          exact ⟨rfl, HB.out⟩
end Go.Proofs.Ytmnfokapdipcdaa
