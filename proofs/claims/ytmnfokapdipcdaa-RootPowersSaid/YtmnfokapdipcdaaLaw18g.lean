import Derived.Test.YtmnfokapdipcdaaLaw18f
/- The laws of layer 18 without the reference: RootPowers. -/
namespace Go.Proofs.Ytmnfokapdipcdaa
open Go.RowKit Go.Deep
theorem or_one_u64 (x : Nat) (hx : x < W64) : bits BinOp.or IntKind.u64 (x : Int) 1 = ((x ||| 1 : Nat) : Int) ∧ (x ||| 1) < W64 ∧ (x ||| 1) ≠ 0 := by
  have h0 : x ||| 1 < 2 ^ 64 := Nat.or_lt_two_pow (by rw [← W64_two]; exact hx) (by omega)
  have h1 : (BitVec.ofInt 64 (x : Int)).toNat = x := by
    rw [BitVec.ofInt_natCast, BitVec.toNat_ofNat]; exact Nat.mod_eq_of_lt (by rw [← W64_two]; exact hx)
  have h2 : (BitVec.ofInt 64 ((1 : Nat) : Int)).toNat = 1 := by
    rw [BitVec.ofInt_natCast, BitVec.toNat_ofNat]
  refine ⟨?_, by rw [W64_two]; exact h0, ?_⟩
  · show IntKind.u64.wrap ((BitVec.ofInt 64 (x : Int) ||| BitVec.ofInt 64 ((1 : Nat) : Int)).toNat : Int) = _
    rw [BitVec.toNat_or, h1, h2, IntKind.wrap_u64]
    omega
  · intro h
    have h3 := congrArg (· % 2) h
    simp only [Nat.zero_mod] at h3
    have h4 : (x ||| 1) % 2 = 1 := by
      rw [Nat.or_mod_two_eq_one]; right; rfl
    omega
/-- A number of two limbs. -/
theorem two_limbs (s : Bool) (x y : Nat) (hx : x < W64) (hy : y < W64) (h0 : y ≠ 0) : ∃ z : Int, ((s, [x, y]) : Raw) = rawOf z ∧ lc z.natAbs = 2 := by
  obtain ⟨z, h1, h2, _⟩ := right_int_of (b := s) (Small.cons hx (Small.one hy)) (by simp [rightInt, h0])
  exact ⟨z, h1, h2⟩
theorem lit_two (W : World) (x y : Nat) (hx : x < W64) (hy : y < W64) : ∃ W' g, W.alloc (.cells #[.int .u64 (x : Int), .int .u64 (y : Int)] 33) = W' ∧ W.heap.size = g ∧ Lim W' W'.heap.size (some ⟨g, 0, none⟩) [x, y] ∧ Below W.heap.size W W' := by
  refine ⟨_, _, rfl, rfl, ?_, (Below.refl _ _).alloc (Nat.le_refl _) _⟩
  have ho : Own (W.alloc (.cells #[.int .u64 (x : Int), .int .u64 (y : Int)] 33)) W.heap.size (.slice (some ⟨W.heap.size, 0, none⟩) 2 2) [x, y] :=
    ⟨Small.cons hx (Small.one hy), rfl, .inr ⟨W.heap.size, 2, _, rfl, Nat.le_refl _, heap_alloc_new W _, Nat.le_refl _, by simp only [maxLen]; omega, rfl, rfl⟩⟩
  obtain ⟨A, c, e, hc, hlim, _⟩ := ho.form
  injection e with e1 e2 e3
  subst e1
  exact hlim
theorem pow_two_len {z : Int} {k : Nat} (hz : lc z.natAbs ≤ 2) (hk : k ≤ 12) : lc (z ^ k).natAbs ≤ 24 := by
  rw [Int.natAbs_pow]
  have h1 := lc_le.1 hz
  rcases Nat.eq_zero_or_pos k with h0 | h0
  · subst h0
    exact Nat.le_trans (lc_limb (by rw [Nat.pow_zero, W64_eq]; omega)) (by omega)
  · rw [lc_le]
    have h2 := Nat.pow_lt_pow_left h1 (show k ≠ 0 by omega)
    rw [← Nat.pow_mul] at h2
    exact Nat.lt_of_lt_of_le h2 (Nat.pow_le_pow_right W64_pos (by omega))
theorem pow_even_nonneg {z : Int} {k : Nat} (h : z ^ k < 0) : k % 2 = 1 := by
  rcases Nat.mod_two_eq_zero_or_one k with he | he
  · exfalso
    obtain ⟨j, rfl⟩ : ∃ j, k = 2 * j := ⟨k / 2, by omega⟩
    rw [Int.pow_mul] at h
    have : 0 ≤ (z ^ 2) ^ j := Int.pow_nonneg (by rw [Int.pow_succ, Int.pow_succ, Int.pow_zero, Int.one_mul, ← Int.natAbs_mul_self]; exact Int.natCast_nonneg _)
    omega
  · exact he
theorem want_raw (z : Int) {k : Nat} (hk : 1 ≤ k) : ((decide (z < 0) && decide (k % 2 = 1), limbs z.natAbs) : Raw) = rawOf (rootZ k (z ^ k)) := by
  rw [rootZ_of_pow hk]
  by_cases h : k % 2 = 1
  · rw [if_pos h, decide_eq_true h, Bool.and_true]; rfl
  · rw [if_neg h, decide_eq_false h, Bool.and_false]
    unfold rawOf
    rw [Int.natAbs_natCast, decide_eq_false (by omega)]
theorem perf_small {z y : Int} {k : Nat} (h : PerfOf z y k) (hl : lc z.natAbs ≤ 24) : lc y.natAbs ≤ 24 ∧ (k : Int) < 9223372036854775808 := by
  refine ⟨Nat.le_trans (lc_mono (perfOf_le h)) hl, ?_⟩
  rcases h with ⟨_, _, rfl⟩ | ⟨h2, x, hp, _⟩
  · omega
  · have h3 := pow_bits hp.pow h2
    have h4 := nbits_le_lc z.natAbs
    omega
theorem RawV.sign {w : World} {s : Bool} {A : Option Addr} {l c : Nat} {x : Raw} (h : RawV w (.agg #[.bool s, .slice A l c]) x) (b : Bool) : RawV w (.agg #[.bool b, .slice A l c]) (b, x.2) :=
  ⟨A, l, c, rfl, h.parts.2.1, h.parts.2.2.1, h.parts.2.2.2⟩
set_option maxHeartbeats 4000000 in
set_option maxRecDepth 100000 in
theorem law_RootPowers (b1 : Bool) (A1 : Option Addr) (l1 c1 : Nat) (xs1 : List Nat) (n : Int) (w : World) (h1 : Lim w w.heap.size A1 xs1) (e1 : l1 = xs1.length) (k1 : l1 ≤ c1) :
    Calls Try.prog 14 #[.agg #[.bool b1, .slice A1 l1 c1], .int .i64 n] w fun o w' => o = .returned (.bool true) ∧ Below w.heap.size w w' := by
  have HV1 : Hid (RawV w (.agg #[.bool b1, .slice A1 l1 c1]) (b1, xs1)) := Lib.hid ⟨A1, l1, c1, rfl, e1, k1, h1⟩
  clear h1 e1 k1
  have hrk : ∃ k : Nat, 1 ≤ k ∧ k ≤ 12 ∧ 1 + n % ((12 : Nat) : Int) = (k : Int) := ⟨(1 + n % 12).toNat, by omega, by omega, by omega⟩
  obtain ⟨k, hk1, hk12, hk⟩ := hrk
  go_enter Try.func14, Try.ntmps14
  go_wp2_with fail
  obtain ⟨W1, gb, hW, hg, bb, G_gb, S_W1, hb⟩ := boxH w (.bool b1) (.slice A1 l1 c1)
  rw [hW, hg]
  replace HV1 := Lib.hid (HV1.out.stay hb)
  have B_W1 := Lib.hid (show Since w W1 from hb)
  clear hW hg hb
  have HB := Lib.hid B_W1.out
  have HGB := Lib.hid (show w.heap.size ≤ gb by have := G_gb.out; omega)
  refine (law18_awake W1).mono ?_
  rintro e w2 ⟨rfl, hb⟩
  replace HV1 := Lib.hid (HV1.out.stay hb)
  replace HB := Lib.hid (HB.out.stay hb)
  replace bb := Lib.hid (bb.out.stay hb)
  clear hb B_W1 G_gb S_W1
  have a0 := bb.out.cell0
  have a1 := bb.out.cell1
  go_wp2_with fail
  refine (law18_known _ _ _ HV1.out).mono ?_
  rintro e w3 ⟨u1, z1, rfl, hz1, hl1, hb⟩
  replace HB := Lib.hid (HB.out.stay hb)
  replace bb := Lib.hid (bb.out.stay hb)
  have HLZ1 := Lib.hid hl1
  obtain ⟨s, B, m, d, rfl, HZ⟩ := hz1.open
  clear hb hz1 hl1 HV1 a0 a1
  have a0 := bb.out.cell0
  have a1 := bb.out.cell1
  have fa := bb.out.free
  go_upto_region 4 with (fail)
  obtain ⟨W5, hW5, bb5, p5⟩ := bb.out.write (.bool s) (.slice B m d)
  rw [hW5]
  replace HB := Lib.hid (HB.out.put p5 HGB.out)
  replace HZ := Lib.hid (HZ.out.put p5)
  clear hW5 p5 bb fa a0 a1
  go_wp2_with fail
  refine (kit_pick n 12 W5 (by omega) (by omega)).mono ?_
  rintro e w7 ⟨rfl, rfl⟩
  go_upto_region 5 with (fail)
  have hk' : 1 + n % 12 = (k : Int) := hk
  rw [hk']
  have HKE := Lib.hid (And.intro hk1 hk12)
  have hkI : (k : Int) ≤ 12 := by omega
  have hkI1 : 1 ≤ (k : Int) := by omega
  clear hk hk' hk1 hk12
  have fa := bb5.out.free
  have a0 := bb5.out.cell0
  have a1 := bb5.out.cell1
  go_upto_if 28 with (fail)
  go_cut [2] (fun t2 wx => ∃ (s : Bool) (B : Option Addr) (m d : Nat) (Z : Int), t2 = .pointer (some ⟨gb, 0, none⟩) ∧ Hid (Box2 wx gb (.bool s) (.slice B m d)) ∧ Hid (IntV wx (.agg #[.bool s, .slice B m d]) Z) ∧ Hid (lc Z.natAbs ≤ 2) ∧ Hid (Since w wx))
  case first =>
    by_cases hm : m ≤ 2
    · have hmI : (m : Int) ≤ 2 := by omega
      have HLZ := Lib.hid (show lc z1.natAbs ≤ 2 by have h5 := HZ.out.parts.2.1; unfold lc; omega)
      clear hm
      go_wp2_with fail
      go_meet
      exact ⟨s, B, m, d, z1, rfl, bb5, HZ, HLZ, HB⟩
    · have hmI : ¬ (m : Int) ≤ 2 := by omega
      have hpp := HZ.out.parts
      obtain ⟨x0, hx0⟩ : ∃ x, (limbs z1.natAbs).getD 0 0 = x := ⟨_, rfl⟩
      obtain ⟨x1, hx1⟩ : ∃ x, (limbs z1.natAbs).getD 1 0 = x := ⟨_, rfl⟩
      have hW0 : x0 < W64 := hx0 ▸ (small_limbs _).getD 0
      have hW1 : x1 < W64 := hx1 ▸ (small_limbs _).getD 1
      obtain ⟨ad, rfl, -, hc0⟩ := hpp.2.2.2.at_ (k := 0) (by omega)
      obtain ⟨ad', had, -, hc1⟩ := hpp.2.2.2.at_ (k := 1) (by omega)
      injection had with had
      subst had
      rw [hx0] at hc0
      rw [hx1] at hc1
      have hc0 : W5.cell? ad = some (.int .u64 (x0 : Int)) := hc0
      rw [show ad.add 1 = ⟨ad.block, ad.off + 1, none⟩ from add_succ ad 0] at hc1
      obtain ⟨o0e, o0l, o0n⟩ := or_one_u64 x0 hW0
      obtain ⟨o1e, o1l, o1n⟩ := or_one_u64 x1 hW1
      obtain ⟨Z, hZ1, hZ2⟩ := two_limbs s (x0 ||| 1) (x1 ||| 1) o0l o1l o1n
      obtain ⟨y0, hy0⟩ : ∃ y, x0 ||| 1 = y := ⟨_, rfl⟩
      obtain ⟨y1, hy1⟩ : ∃ y, x1 ||| 1 = y := ⟨_, rfl⟩
      rw [hy0] at o0e o0l hZ1
      rw [hy1] at o1e o1l hZ1
      have HZZ := Lib.hid (And.intro hZ1 (And.intro hZ2 (And.intro o0l o1l)))
      have r0 := later_cell bb5.out.cell0
      have r1 := later_cell bb5.out.cell1
      have r2 := later_cell hc0
      have r3 := later_cell hc1
      have hm2 : (1 : Int) < (m : Int) := by omega
      clear hpp hx0 hx1 hy0 hy1 hW0 hW1 o0l o0n o1l o1n hZ1 hZ2 hm hc0 hc1 a0 a1
      go_upto_region 6 with (fail)
      refine wp_region_stages (fun w' => ∃ δ : Later Nix W5, w' = δ.world) [(false, 0), (false, 1), (false, 2), (false, 3), (false, 4), (false, 5), (false, 6), (false, 7), (false, 8), (false, 9), (false, 10), (false, 11), (true, 12)] 13 [.reads [_, _, _, _, _, _, _, _, _, _, _, _], .loud _] [_, _] (by kernel_rfl) (by kernel_rfl) rfl rfl ?_ ?_
      · exact ⟨⟨_, nix_drawn W5⟩, rfl⟩
      refine wpStages_reads ?_
      repeat (go_big_quiet_step (fail))
      refine wpQuiet_nil ?_
      refine wpStages_loud rfl ?_
      intro K hK
      go_big_op
      obtain ⟨W6, g6, hW6, hg6, hlit, hb⟩ := lit_two (W5.drewN 1) y0 y1 HZZ.out.2.2.1 HZZ.out.2.2.2
      have hg6' : W5.heap.size = g6 := hg6
      rw [hW6, hg6']
      have hb5 : Below W5.heap.size W5 W6 := (below_drewN (Below.refl _ _) 1).trans hb
      have ex : Ext Nix W5 W6 := (nix_drawn W5).later (Ext.of_below hb)
      replace HB := Lib.hid (HB.out.stay hb5)
      replace bb5 := Lib.hid (bb5.out.stay hb5)
      have HLIT := Lib.hid hlit
      clear hW6 hg6 hg6' hb hb5 hlit
      refine hK _ _ ⟨⟨_, ex⟩, rfl⟩ ?_
      clear hK K r0 r1 r2 r3
      refine wpStages_nil ?_
      have fb := bb5.out.free
      have a0 := bb5.out.cell0
      have a1 := bb5.out.cell1
      go_wp2_with fail
      go_meet
      obtain ⟨W7, hW7, bb7, p7⟩ := bb5.out.write (.bool s) (.slice (some ⟨g6, 0, none⟩) 2 2)
      rw [hW7]
      have h3 : RawV W6 (.agg #[.bool s, .slice (some ⟨g6, 0, none⟩) 2 2]) (rawOf Z) := by rw [← HZZ.out.1]; exact ⟨_, 2, 2, rfl, rfl, Nat.le_refl _, HLIT.out⟩
      exact ⟨s, _, 2, 2, Z, rfl, bb7, Lib.hid (h3.put p7).int, Lib.hid (by rw [HZZ.out.2.1]; exact Nat.le_refl _), Lib.hid (HB.out.put p7 HGB.out)⟩
  case rest =>
    clear HB HZ bb5 HLZ1 fa a0 a1
    obtain ⟨s, B, m, d, Z, rfl, bb, HZ, HLZ, HB⟩ := hcut
    have HLA := Lib.hid (pow_two_len HLZ.out HKE.out.2)
    have a0 := bb.out.cell0
    have a1 := bb.out.cell1
    go_wp2_with fail
    refine (times_Power _ Z k _ HZ.out (by have := HLZ.out; omega) HLA.out (by have := HKE.out.2; omega)).mono ?_
    rintro e w10 ⟨ua, rfl, ha, hb⟩
    replace HZ := Lib.hid (HZ.out.stay hb)
    replace HB := Lib.hid (HB.out.stay hb)
    replace bb := Lib.hid (bb.out.stay hb)
    obtain ⟨sa, Aa, la, ca, rfl, HA⟩ := ha.open
    replace HA := Lib.hid HA.out.int
    clear ha hb a0 a1
    have HO := Lib.hid (fun h : Z ^ k < 0 => pow_even_nonneg h)
    have HWR := Lib.hid (want_raw Z HKE.out.1)
    obtain ⟨A, hA⟩ : ∃ A, Z ^ k = A := ⟨_, rfl⟩
    have HAZ := Lib.hid hA
    rw [hA] at HA HLA HO HWR
    clear hA
    go_upto_region 8 with (fail)
    obtain ⟨W11, ga, hW, hg, ba, G_ga, S_W11, hb⟩ := boxH w10 (.bool sa) (.slice Aa la ca)
    rw [hW, hg]
    have L_bb_ga := Lib.hid (Nat.lt_of_lt_of_eq bb.out.lt hg)
    replace HB := Lib.hid (HB.out.stay hb)
    replace HZ := Lib.hid (HZ.out.stay hb)
    replace HA := Lib.hid (HA.out.stay hb)
    replace bb := Lib.hid (bb.out.stay hb)
    have B_W11 := Lib.hid (show Since w10 W11 from hb)
    clear hW hg hb
    clear G_ga S_W11 B_W11
    have a0 := ba.out.cell0
    have a1 := ba.out.cell1
    go_wp2_with fail
    refine (root_Of _ A k W11 HA.out (by have := HLA.out; omega) HKE.out.1 (by have := HKE.out.2; omega) HO.out).mono ?_
    rintro e w12 ⟨ur, rfl, hr, hb⟩
    replace HZ := Lib.hid (HZ.out.stay hb)
    replace HB := Lib.hid (HB.out.stay hb)
    replace HA := Lib.hid (HA.out.stay hb)
    replace bb := Lib.hid (bb.out.stay hb)
    replace ba := Lib.hid (ba.out.stay hb)
    obtain ⟨sr, Ar, lr, cr, rfl, HR⟩ := hr.open
    replace HR := Lib.hid HR.out.rawV
    clear hr hb a0 a1
    go_upto_region 9 with (fail)
    obtain ⟨W13, gr, hW, hg, br, G_gr, S_W13, hb⟩ := boxH w12 (.bool sr) (.slice Ar lr cr)
    rw [hW, hg]
    have L_bb_gr := Lib.hid (Nat.lt_of_lt_of_eq bb.out.lt hg)
    have L_ba_gr := Lib.hid (Nat.lt_of_lt_of_eq ba.out.lt hg)
    replace HB := Lib.hid (HB.out.stay hb)
    replace HZ := Lib.hid (HZ.out.stay hb)
    replace HA := Lib.hid (HA.out.stay hb)
    replace HR := Lib.hid (HR.out.stay hb)
    replace bb := Lib.hid (bb.out.stay hb)
    replace ba := Lib.hid (ba.out.stay hb)
    have B_W13 := Lib.hid (show Since w12 W13 from hb)
    clear hW hg hb
    clear G_gr S_W13 B_W13
    have a0 := bb.out.cell0
    have a1 := bb.out.cell1
    go_upto_region 10 with (fail)
    obtain ⟨W14, gw, hW, hg, bw, G_gw, S_W14, hb⟩ := boxH W13 (.bool s) (.slice B m d)
    rw [hW, hg]
    have L_bb_gw := Lib.hid (Nat.lt_of_lt_of_eq bb.out.lt hg)
    have L_ba_gw := Lib.hid (Nat.lt_of_lt_of_eq ba.out.lt hg)
    have L_br_gw := Lib.hid (Nat.lt_of_lt_of_eq br.out.lt hg)
    replace HB := Lib.hid (HB.out.stay hb)
    replace HZ := Lib.hid (HZ.out.stay hb)
    replace HA := Lib.hid (HA.out.stay hb)
    replace HR := Lib.hid (HR.out.stay hb)
    replace bb := Lib.hid (bb.out.stay hb)
    replace ba := Lib.hid (ba.out.stay hb)
    replace br := Lib.hid (br.out.stay hb)
    have B_W14 := Lib.hid (show Since W13 W14 from hb)
    clear hW hg hb
    clear S_W14 B_W14 a0 a1
    have HGW := Lib.hid (show w.heap.size ≤ gw from Nat.le_trans HGB.out (Nat.le_of_lt L_bb_gw.out))
    have a0 := bb.out.cell0
    have a1 := bb.out.cell1
    have o0 := bw.out.cell0
    have o1 := bw.out.cell1
    have fo := bw.out.free
    go_cut [9] (fun t9 wx => t9 = .pointer (some ⟨gw, 0, none⟩) ∧ Hid (Box2 wx gw (.bool (s && decide (k % 2 = 1))) (.slice B m d)) ∧ Hid (Since w wx) ∧ Hid (IntV wx (.agg #[.bool s, .slice B m d]) Z) ∧ Hid (IntV wx (.agg #[.bool sa, .slice Aa la ca]) A) ∧ Hid (RawV wx (.agg #[.bool sr, .slice Ar lr cr]) (rawOf (rootZ k A))) ∧ Hid (Box2 wx gb (.bool s) (.slice B m d)) ∧ Hid (Box2 wx ga (.bool sa) (.slice Aa la ca)) ∧ Hid (Box2 wx gr (.bool sr) (.slice Ar lr cr)))
    case first =>
      cases s
      · go_wp2_with fail
        go_meet
        obtain ⟨W15, hW15, bw', p15⟩ := bw.out.write0 (.bool false)
        rw [hW15]
        exact ⟨rfl, bw', Lib.hid (HB.out.put p15 HGW.out), Lib.hid (HZ.out.put p15), Lib.hid (HA.out.put p15), Lib.hid (HR.out.put p15), Lib.hid (bb.out.put p15 (Nat.ne_of_lt L_bb_gw.out)), Lib.hid (ba.out.put p15 (Nat.ne_of_lt L_ba_gw.out)), Lib.hid (br.out.put p15 (Nat.ne_of_lt L_br_gw.out))⟩
      · rcases Nat.mod_two_eq_zero_or_one k with he | he
        · have hev : ((k : Int) % 2 == 1) = false := by rw [beq_eq_false_iff_ne]; omega
          go_wp2_with fail
          go_meet
          have he2 : decide (k % 2 = 1) = false := decide_eq_false (by omega)
          rw [he2]
          obtain ⟨W15, hW15, bw', p15⟩ := bw.out.write0 (.bool false)
          rw [hW15]
          exact ⟨rfl, bw', Lib.hid (HB.out.put p15 HGW.out), Lib.hid (HZ.out.put p15), Lib.hid (HA.out.put p15), Lib.hid (HR.out.put p15), Lib.hid (bb.out.put p15 (Nat.ne_of_lt L_bb_gw.out)), Lib.hid (ba.out.put p15 (Nat.ne_of_lt L_ba_gw.out)), Lib.hid (br.out.put p15 (Nat.ne_of_lt L_br_gw.out))⟩
        · have hev : ((k : Int) % 2 == 1) = true := by rw [beq_iff_eq]; omega
          go_wp2_with fail
          go_meet
          have he2 : decide (k % 2 = 1) = true := decide_eq_true he
          rw [he2]
          obtain ⟨W15, hW15, bw', p15⟩ := bw.out.write0 (.bool true)
          rw [hW15]
          exact ⟨rfl, bw', Lib.hid (HB.out.put p15 HGW.out), Lib.hid (HZ.out.put p15), Lib.hid (HA.out.put p15), Lib.hid (HR.out.put p15), Lib.hid (bb.out.put p15 (Nat.ne_of_lt L_bb_gw.out)), Lib.hid (ba.out.put p15 (Nat.ne_of_lt L_ba_gw.out)), Lib.hid (br.out.put p15 (Nat.ne_of_lt L_br_gw.out))⟩
    case rest =>
      clear HB HZ HA HR bb ba br bw a0 a1 o0 o1 fo
      obtain ⟨rfl, bw, HB, HZ, HA, HR, bb, ba, br⟩ := hcut
      have HW := Lib.hid (show RawV _ (.agg #[.bool (s && decide (k % 2 = 1)), .slice B m d]) (rawOf (rootZ k A)) by
        have h5 := HZ.out.raw.sign (s && decide (k % 2 = 1))
        have h6 := HZ.out.parts.1
        rw [← HWR.out, ← h6]
        exact h5)
      obtain ⟨sw, hsw⟩ : ∃ b, (s && decide (k % 2 = 1)) = b := ⟨_, rfl⟩
      rw [hsw] at bw HW
      have HLR := Lib.hid (show lc (rootZ k A).natAbs ≤ 24 from Nat.le_trans (lc_mono (rootZ_le HKE.out.1)) HLA.out)
      clear hsw HWR HZ
      have a0 := br.out.cell0
      have a1 := br.out.cell1
      have o0 := bw.out.cell0
      have o1 := bw.out.cell1
      go_wp2_with fail
      refine (law18_is _ _ _ _ 0 0 _ HR.out HW.out (by have h5 := HLR.out; unfold lc at h5; show (limbs (rootZ k A).natAbs).length ≤ _; omega)).mono ?_
      rintro e w16 ⟨rfl, hb⟩
      rw [show (decide ((0 : Int) = 0) && decide (rawOf (rootZ k A) = rawOf (rootZ k A))) = true by simp]
      clear HR HW br bw a0 a1 o0 o1
      replace HB := Lib.hid (HB.out.stay hb)
      replace HA := Lib.hid (HA.out.stay hb)
      replace bb := Lib.hid (bb.out.stay hb)
      replace ba := Lib.hid (ba.out.stay hb)
      clear hb
      have a0 := ba.out.cell0
      have a1 := ba.out.cell1
      go_wp2_with fail
      refine (root_Perfect _ A _ HA.out (by have := HLA.out; omega)).mono ?_
      rintro e w17 ⟨uy, y, kk, rfl, hp, hy, hb⟩
      replace HB := Lib.hid (HB.out.stay hb)
      replace HA := Lib.hid (HA.out.stay hb)
      replace bb := Lib.hid (bb.out.stay hb)
      replace ba := Lib.hid (ba.out.stay hb)
      obtain ⟨sy, Ay, ly, cy, rfl, HY⟩ := hy.open
      replace HY := Lib.hid HY.out.int
      have HP := Lib.hid hp
      have HPS := Lib.hid (perf_small hp HLA.out)
      have HPP := Lib.hid (perf_pow hp)
      clear hb hp hy a0 a1
      go_upto_region 14 with (fail)
      obtain ⟨W18, gy, hW, hg, byy, G_gy, S_W18, hb⟩ := boxH w17 (.bool sy) (.slice Ay ly cy)
      rw [hW, hg]
      have L_bb_gy := Lib.hid (Nat.lt_of_lt_of_eq bb.out.lt hg)
      have L_ba_gy := Lib.hid (Nat.lt_of_lt_of_eq ba.out.lt hg)
      replace HB := Lib.hid (HB.out.stay hb)
      replace HA := Lib.hid (HA.out.stay hb)
      replace HY := Lib.hid (HY.out.stay hb)
      replace bb := Lib.hid (bb.out.stay hb)
      replace ba := Lib.hid (ba.out.stay hb)
      have B_W18 := Lib.hid (show Since w17 W18 from hb)
      clear hW hg hb
      clear G_gy S_W18 B_W18 L_bb_gy L_ba_gy
      have a0 := byy.out.cell0
      have a1 := byy.out.cell1
      go_wp2_with fail
      refine (times_Power _ y kk _ HY.out HPS.out.1 (by rw [HPP.out.1]; exact HLA.out) HPS.out.2).mono ?_
      rintro e w19 ⟨uz, rfl, hz, hb⟩
      rw [HPP.out.1] at hz
      replace HB := Lib.hid (HB.out.stay hb)
      replace HA := Lib.hid (HA.out.stay hb)
      replace HY := Lib.hid (HY.out.stay hb)
      replace bb := Lib.hid (bb.out.stay hb)
      replace ba := Lib.hid (ba.out.stay hb)
      replace byy := Lib.hid (byy.out.stay hb)
      obtain ⟨sz, Az, lz, cz, rfl, HZ⟩ := hz.open
      replace HZ := Lib.hid HZ.out.rawV
      clear hb hz a0 a1
      go_upto_region 15 with (fail)
      obtain ⟨W20, gz, hW, hg, bzz, G_gz, S_W20, hb⟩ := boxH w19 (.bool sz) (.slice Az lz cz)
      rw [hW, hg]
      have L_bb_gz := Lib.hid (Nat.lt_of_lt_of_eq bb.out.lt hg)
      have L_ba_gz := Lib.hid (Nat.lt_of_lt_of_eq ba.out.lt hg)
      have L_byy_gz := Lib.hid (Nat.lt_of_lt_of_eq byy.out.lt hg)
      replace HB := Lib.hid (HB.out.stay hb)
      replace HA := Lib.hid (HA.out.stay hb)
      replace HY := Lib.hid (HY.out.stay hb)
      replace HZ := Lib.hid (HZ.out.stay hb)
      replace bb := Lib.hid (bb.out.stay hb)
      replace ba := Lib.hid (ba.out.stay hb)
      replace byy := Lib.hid (byy.out.stay hb)
      have B_W20 := Lib.hid (show Since w19 W20 from hb)
      clear hW hg hb
      clear G_gz S_W20 B_W20 L_bb_gz L_ba_gz L_byy_gz
      have a0 := ba.out.cell0
      have a1 := ba.out.cell1
      have o0 := bzz.out.cell0
      have o1 := bzz.out.cell1
      have HSY := Lib.hid (show sy = sa by rw [HY.out.parts.1, HA.out.parts.1, decide_eq_decide]; exact HPP.out.2.2)
      have hkk : ¬ ((kk : Int) < 1) := by have := HPP.out.2.1; omega
      obtain rfl : sy = sa := HSY.out
      go_wp2_with fail
      refine (law18_is _ _ _ _ 0 0 _ HZ.out HA.out.raw (by have h5 := HLA.out; unfold lc at h5; show (limbs A.natAbs).length ≤ _; omega)).mono ?_
      rintro e w21 ⟨rfl, hb⟩
      rw [show (decide ((0 : Int) = 0) && decide (rawOf A = rawOf A)) = true by simp]
      clear HZ bzz a0 a1 o0 o1
      replace HB := Lib.hid (HB.out.stay hb)
      replace HA := Lib.hid (HA.out.stay hb)
      replace HY := Lib.hid (HY.out.stay hb)
      replace bb := Lib.hid (bb.out.stay hb)
      replace ba := Lib.hid (ba.out.stay hb)
      replace byy := Lib.hid (byy.out.stay hb)
      clear hb
      have a0 := ba.out.cell0
      have a1 := ba.out.cell1
      have o0 := byy.out.cell0
      have o1 := byy.out.cell1
      go_upto_region 17 with (fail)
      clear o0 o1
      have o0 := byy.out.cell0
      have o1 := byy.out.cell1
      by_cases hA2 : A.natAbs < 2
      · obtain ⟨hy, hk⟩ : y = A ∧ kk = 1 := by
          rcases HP.out with ⟨_, h1, h2⟩ | ⟨h, _⟩
          · exact ⟨h1, h2⟩
          · omega
        subst hy
        subst hk
        rw [show ((1 : Nat) : Int) = 1 from rfl]
        by_cases h0 : y = 0
        · have hl0 : la = 0 := by rw [HA.out.parts.2.1, h0]; simp [limbs_zero]
          subst hl0
          clear hA2 h0
          go_wp2_with fail
          refine (kit_raw _ _ _ _ _ HY.out.raw HA.out.raw (by have h5 := HLA.out; unfold lc at h5; show (limbs y.natAbs).length ≤ _; omega)).mono ?_
          rintro e w22 ⟨rfl, hb⟩
          rw [decide_eq_true rfl]
          replace HB := Lib.hid (HB.out.stay hb)
          clear hb
          go_wp2_with fail
          go_ret
          exact ⟨rfl, HB.out⟩
        · have hl1 : limbs y.natAbs = [1] := by rw [show y.natAbs = 1 by omega]; exact limbs_of_small (by rw [W64_eq]; omega) (by omega)
          have hpp := HA.out.parts
          rw [hl1] at hpp
          have hla : la = 1 := hpp.2.1
          subst hla
          obtain ⟨ad, rfl, -, hcell⟩ := hpp.2.2.2.at_ (k := 0) (by simp)
          have hcell2 : w21.cell? ad = some (.int .u64 1) := hcell
          clear hA2 h0 hl1 hpp hcell
          go_wp2_with fail
          refine (kit_raw _ _ _ _ _ HY.out.raw HA.out.raw (by have h5 := HLA.out; unfold lc at h5; show (limbs y.natAbs).length ≤ _; omega)).mono ?_
          rintro e w22 ⟨rfl, hb⟩
          rw [decide_eq_true rfl]
          replace HB := Lib.hid (HB.out.stay hb)
          clear hb
          go_wp2_with fail
          go_ret
          exact ⟨rfl, HB.out⟩
      · have HA2 := Lib.hid (show 2 ≤ A.natAbs by omega)
        have hla0 : ((la : Int) == 0) = false := beq_eq_false_iff_ne.2 (by
          have h1 := HA.out.parts.2.1
          intro h2
          have h3 := limbs_eq_nil.1 (List.eq_nil_of_length_eq_zero (show (limbs A.natAbs).length = 0 by omega))
          omega)
        by_cases h1 : la = 1
        · subst h1
          obtain ⟨x, hx⟩ : ∃ x, limbs A.natAbs = [x] := by
            have h1 := HA.out.parts.2.1
            rcases hll : limbs A.natAbs with _ | ⟨x, _ | ⟨e, q⟩⟩
            · rw [hll] at h1; cases h1
            · exact ⟨x, rfl⟩
            · rw [hll] at h1; simp at h1
          have hdx : A.natAbs = x := by have := val_limbs A.natAbs; rw [hx] at this; simpa using this.symm
          obtain ⟨ad, rfl, -, hcell⟩ := HA.out.parts.2.2.2.at_ (k := 0) (by rw [hx]; simp)
          rw [hx] at hcell
          have hcell2 : w21.cell? ad = some (.int .u64 (x : Int)) := hcell
          have td : ((x : Int) == 1) = false := beq_eq_false_iff_ne.2 (by have := HA2.out; omega)
          clear hx hdx hcell hA2
          go_wp2_with fail
          refine (root_Perfect _ y _ HY.out (by have := HPS.out.1; omega)).mono ?_
          rintro e w22 ⟨u2, y2, k2, rfl, hp2, hy2, hb⟩
          obtain ⟨hy3, hk3⟩ := perf_again HA2.out HP.out hp2
          subst hy3
          subst hk3
          obtain ⟨sg, Ag, lg, cg, rfl, HG⟩ := hy2.open
          replace HG := Lib.hid HG.out.rawV
          clear hp2 hy2 a0 a1 o0 o1
          replace HB := Lib.hid (HB.out.stay hb)
          replace HA := Lib.hid (HA.out.stay hb)
          replace HY := Lib.hid (HY.out.stay hb)
          replace bb := Lib.hid (bb.out.stay hb)
          replace ba := Lib.hid (ba.out.stay hb)
          replace byy := Lib.hid (byy.out.stay hb)
          clear hb
          rw [show ((1 : Nat) : Int) = 1 from rfl]
          go_upto_region 20 with (fail)
          obtain ⟨W23, gg, hW, hg, bgg, G_gg, S_W23, hb⟩ := boxH w22 (.bool sg) (.slice Ag lg cg)
          rw [hW, hg]
          replace HB := Lib.hid (HB.out.stay hb)
          replace HA := Lib.hid (HA.out.stay hb)
          replace HY := Lib.hid (HY.out.stay hb)
          replace HG := Lib.hid (HG.out.stay hb)
          replace bb := Lib.hid (bb.out.stay hb)
          replace ba := Lib.hid (ba.out.stay hb)
          replace byy := Lib.hid (byy.out.stay hb)
          have B_W23 := Lib.hid (show Since w22 W23 from hb)
          clear hW hg hb
          clear G_gg S_W23 B_W23
          have a0 := bgg.out.cell0
          have a1 := bgg.out.cell1
          have o0 := byy.out.cell0
          have o1 := byy.out.cell1
          go_wp2_with fail
          refine (kit_raw _ _ _ _ _ HG.out HY.out.raw (by have h5 := HPS.out.1; unfold lc at h5; show (limbs y2.natAbs).length ≤ _; omega)).mono ?_
          rintro e w24 ⟨rfl, hb⟩
          rw [decide_eq_true rfl]
          clear HG bgg a0 a1 o0 o1 HY byy
          replace HB := Lib.hid (HB.out.stay hb)
          replace HA := Lib.hid (HA.out.stay hb)
          replace bb := Lib.hid (bb.out.stay hb)
          replace ba := Lib.hid (ba.out.stay hb)
          clear hb
          have a0 := ba.out.cell0
          have a1 := ba.out.cell1
          have o0 := bb.out.cell0
          have o1 := bb.out.cell1
          cases hsy : sy
          · rw [hsy] at a0
            have HK := Lib.hid (show kk % k = 0 from perf_dvd HKE.out.1 HA2.out (by
              have h5 := HA.out.parts.1
              rw [hsy] at h5
              have h6 := of_decide_eq_false h5.symm
              omega) HP.out HAZ.out)
            have hmod : ((kk : Int) % (k : Int) == 0) = true := by rw [beq_iff_eq, ← Int.natCast_emod, HK.out]; rfl
            clear hsy
            cases s
            · go_wp2_with fail
              go_ret
              exact ⟨rfl, HB.out⟩
            · go_wp2_with fail
              go_ret
              exact ⟨rfl, HB.out⟩
          · rw [hsy] at a0
            clear hsy
            go_wp2_with fail
            go_ret
            exact ⟨rfl, HB.out⟩
        · have tl1 : ((la : Int) == 1) = false := beq_eq_false_iff_ne.2 (by omega)
          clear h1 hA2
          go_wp2_with fail
          refine (root_Perfect _ y _ HY.out (by have := HPS.out.1; omega)).mono ?_
          rintro e w22 ⟨u2, y2, k2, rfl, hp2, hy2, hb⟩
          obtain ⟨hy3, hk3⟩ := perf_again HA2.out HP.out hp2
          subst hy3
          subst hk3
          obtain ⟨sg, Ag, lg, cg, rfl, HG⟩ := hy2.open
          replace HG := Lib.hid HG.out.rawV
          clear hp2 hy2 a0 a1 o0 o1
          replace HB := Lib.hid (HB.out.stay hb)
          replace HA := Lib.hid (HA.out.stay hb)
          replace HY := Lib.hid (HY.out.stay hb)
          replace bb := Lib.hid (bb.out.stay hb)
          replace ba := Lib.hid (ba.out.stay hb)
          replace byy := Lib.hid (byy.out.stay hb)
          clear hb
          rw [show ((1 : Nat) : Int) = 1 from rfl]
          go_upto_region 20 with (fail)
          obtain ⟨W23, gg, hW, hg, bgg, G_gg, S_W23, hb⟩ := boxH w22 (.bool sg) (.slice Ag lg cg)
          rw [hW, hg]
          replace HB := Lib.hid (HB.out.stay hb)
          replace HA := Lib.hid (HA.out.stay hb)
          replace HY := Lib.hid (HY.out.stay hb)
          replace HG := Lib.hid (HG.out.stay hb)
          replace bb := Lib.hid (bb.out.stay hb)
          replace ba := Lib.hid (ba.out.stay hb)
          replace byy := Lib.hid (byy.out.stay hb)
          have B_W23 := Lib.hid (show Since w22 W23 from hb)
          clear hW hg hb
          clear G_gg S_W23 B_W23
          have a0 := bgg.out.cell0
          have a1 := bgg.out.cell1
          have o0 := byy.out.cell0
          have o1 := byy.out.cell1
          go_wp2_with fail
          refine (kit_raw _ _ _ _ _ HG.out HY.out.raw (by have h5 := HPS.out.1; unfold lc at h5; show (limbs y2.natAbs).length ≤ _; omega)).mono ?_
          rintro e w24 ⟨rfl, hb⟩
          rw [decide_eq_true rfl]
          clear HG bgg a0 a1 o0 o1 HY byy
          replace HB := Lib.hid (HB.out.stay hb)
          replace HA := Lib.hid (HA.out.stay hb)
          replace bb := Lib.hid (bb.out.stay hb)
          replace ba := Lib.hid (ba.out.stay hb)
          clear hb
          have a0 := ba.out.cell0
          have a1 := ba.out.cell1
          have o0 := bb.out.cell0
          have o1 := bb.out.cell1
          cases hsy : sy
          · rw [hsy] at a0
            have HK := Lib.hid (show kk % k = 0 from perf_dvd HKE.out.1 HA2.out (by
              have h5 := HA.out.parts.1
              rw [hsy] at h5
              have h6 := of_decide_eq_false h5.symm
              omega) HP.out HAZ.out)
            have hmod : ((kk : Int) % (k : Int) == 0) = true := by rw [beq_iff_eq, ← Int.natCast_emod, HK.out]; rfl
            clear hsy
            cases s
            · go_wp2_with fail
              go_ret
              exact ⟨rfl, HB.out⟩
            · go_wp2_with fail
              go_ret
              exact ⟨rfl, HB.out⟩
          · rw [hsy] at a0
            clear hsy
            go_wp2_with fail
            go_ret
            exact ⟨rfl, HB.out⟩
end Go.Proofs.Ytmnfokapdipcdaa
