import Derived.Test.YtmnfokapdipcdaaRef10
import Derived.Test.YtmnfokapdipcdaaR18
/- The package rosetteref00: NatDiv, NatRoot. -/
namespace Go.Proofs.Ytmnfokapdipcdaa
open Go.RowKit Go.Deep
set_option maxHeartbeats 1000000 in
set_option maxRecDepth 100000 in
theorem nat_div (u v : Value) (a b : Nat) (w : World) (hu : NatAt w u a) (hv : NatAt w v b) (la : lc a ≤ 68719476736) (lb : lc b ≤ 68719476736) (hb : b ≠ 0) :
    Calls Try.prog 126 #[u, v] w fun e w' => ∃ q r, e = .returned (.tuple #[q, r]) ∧ NatAt w' q (a / b) ∧ NatAt w' r (a % b) ∧ Below w.heap.size w w' := by
  have HU := Lib.hid hu
  have HV := Lib.hid hv
  obtain ⟨A1, l1, c1, rfl, e1, hc1, h1⟩ := hu
  obtain ⟨A2, l2, c2, rfl, e2, hc2, h2⟩ := hv
  have H1 := Lib.hid (And.intro e1 (And.intro hc1 h1))
  have H2 := Lib.hid (And.intro e2 (And.intro hc2 h2))
  have LA := Lib.hid la
  have LB := Lib.hid lb
  have HB := Lib.hid hb
  clear e1 hc1 h1 e2 hc2 h2 la lb hb
  go_enter Try.func126, Try.ntmps126
  go_wp2_with fail
  refine (ref_halves A1 l1 c1 (limbs a) w H1.out.2.2 H1.out.1 (by have := H1.out.1; have := LA.out; unfold lc at this; omega)).mono ?_
  rintro e w1 ⟨x, rfl, hx, hb1⟩
  have HX1 := Lib.hid (hx.mono (Nat.zero_le _))
  have HB1 := Lib.hid hb1
  have H21 := Lib.hid ((H2.out.2.2.below hb1).more hb1.size)
  clear hx hb1
  go_wp2_with fail
  refine (ref_halves A2 l2 c2 (limbs b) w1 H21.out H2.out.1 (by have := H2.out.1; have := LB.out; unfold lc at this; omega)).mono ?_
  rintro e w2 ⟨y, rfl, hy, hb2⟩
  have hx2 := HX1.out.below hb2
  have HB2 := Lib.hid (HB1.out.trans (hb2.mono HB1.out.size))
  obtain ⟨Ax, cx, rfl, hcx, hlx, _⟩ := hx2.form
  obtain ⟨Ay, cy, rfl, hcy, hly, _⟩ := hy.form
  have hDX : Hid (Tiny (dig (limbs a)) ∧ Norm (dig (limbs a)) ∧ val32 (dig (limbs a)) = a ∧ (dig (limbs a)).length ≤ 2 * lc a) := Lib.hid ⟨tiny_dig (small_limbs a), norm_dig _, by rw [val32_dig, val_limbs], dig_length _⟩
  have hDY : Hid (Tiny (dig (limbs b)) ∧ Norm (dig (limbs b)) ∧ val32 (dig (limbs b)) = b ∧ (dig (limbs b)).length ≤ 2 * lc b) := Lib.hid ⟨tiny_dig (small_limbs b), norm_dig _, by rw [val32_dig, val_limbs], dig_length _⟩
  obtain ⟨xs, hxs⟩ : ∃ xs, dig (limbs a) = xs := ⟨_, rfl⟩
  obtain ⟨ys, hys⟩ : ∃ ys, dig (limbs b) = ys := ⟨_, rfl⟩
  rw [hxs] at hDX hlx hcx ⊢
  rw [hys] at hDY hly hcy ⊢
  have HLX := Lib.hid hlx
  have HLY := Lib.hid hly
  obtain ⟨lx, hlx'⟩ : ∃ lx, xs.length = lx := ⟨_, rfl⟩
  obtain ⟨ly, hly'⟩ : ∃ ly, ys.length = ly := ⟨_, rfl⟩
  rw [hlx'] at hcx ⊢
  rw [hly'] at hcy ⊢
  have HLEX := Lib.hid hlx'
  have HLEY := Lib.hid hly'
  have HCX := Lib.hid (And.intro hcx hcy)
  have HA2 := Lib.hid (HU.out.below HB2.out)
  clear hxs hys hx2 hy hlx hly hcx hcy hlx' hly' hb2 HX1 HB1 H21
  by_cases hlt : lx < ly
  · have hI : (lx : Int) < (ly : Int) := by omega
    have HAB := Lib.hid (show a < b from by
      refine Nat.lt_of_not_le fun hba => ?_
      have h1 := val32_lt hDX.out.1
      rw [hDX.out.2.2.1] at h1
      have h2 := norm_len hDY.out.2.1 (n := xs.length) (by rw [hDY.out.2.2.1]; omega)
      have := HLEX.out
      have := HLEY.out
      omega)
    clear hlt
    go_wp2_with fail
    refine (nat_trim HA2.out (by have := LA.out; omega)).mono ?_
    rintro e w3 ⟨r, rfl, hr, -, hb3⟩
    go_wp2_with fail
    go_ret2
    refine ⟨_, _, rfl, ?_, ?_, HB2.out.trans (hb3.mono HB2.out.size)⟩
    · rw [Nat.div_eq_of_lt HAB.out]; exact NatAt.nil _
    · rw [Nat.mod_eq_of_lt HAB.out]; exact hr
  · have hI : ¬ (lx : Int) < (ly : Int) := by omega
    by_cases h1 : ly = 1
    · have h1I : (ly : Int) = 1 := by omega
      obtain ⟨ad, rfl, _, hc0⟩ := HLY.out.at_ (k := 0) (by rw [HLEY.out]; omega)
      obtain ⟨y0, hy0⟩ : ∃ y0, ys.getD 0 0 = y0 := ⟨_, rfl⟩
      rw [hy0] at hc0
      have hc0' : w2.cell? ad = some (.int .u64 (y0 : Int)) := by simpa [Addr.add] using hc0
      have HY0 := Lib.hid (show y0 = b ∧ y0 < W32 from by
        have h2 := val32_take_step ys 0
        rw [List.take_of_length_le (by rw [HLEY.out]; omega), hDY.out.2.2.1, hy0] at h2
        refine ⟨by simpa [val32] using h2.symm, by rw [← hy0]; exact hDY.out.1.getD 0⟩)
      have HXL := Lib.hid (show lx ≤ 549755813888 from by have := hDX.out.2.2.2; have := HLEX.out; have := LA.out; omega)
      clear hlt h1 hy0
      go_wp2_with fail
      refine (ref_short Ax lx cx y0 xs w2 HLX.out hDX.out.1 HLEX.out.symm HXL.out (by have := HY0.out.1; have := HB.out; omega) HY0.out.2).mono ?_
      rintro e w3 ⟨Aq, lq, cq, zs, rfl, hzl, hzc, hzl2, hzlim, hzt, -, hzv, hb3⟩
      rw [hDX.out.2.2.1] at hzv ⊢
      have HZ := Lib.hid (And.intro hzl (And.intro hzc (And.intro hzl2 (And.intro hzlim (And.intro hzt hzv)))))
      have HB3 := Lib.hid (HB2.out.trans (hb3.mono HB2.out.size))
      obtain ⟨r0, hr0⟩ : ∃ r0, a % y0 = r0 := ⟨_, rfl⟩
      have HR0 := Lib.hid hr0
      rw [hr0]
      have HRW := Lib.hid (show r0 < W64 from by rw [← hr0]; exact Nat.lt_trans (Nat.mod_lt _ (by have := HY0.out.1; have := HB.out; omega)) (Nat.lt_trans HY0.out.2 W32_lt))
      clear hzl hzc hzl2 hzlim hzt hzv hb3 hr0
      go_wp2_with fail
      refine (ref_limbs Aq lq cq zs w3 HZ.out.2.2.2.1 HZ.out.2.2.2.2.1 HZ.out.1 (by have := HZ.out.1; have := HZ.out.2.2.1; have := HXL.out; omega)).mono ?_
      rintro e w4 ⟨q, rfl, hq, hb4⟩
      have HQ4 := Lib.hid (NatAt.of_own hq)
      have HB4 := Lib.hid (HB3.out.trans (hb4.mono HB3.out.size))
      clear hq hb4
      go_wp2_with fail
      refine (ref_of r0 w4 HRW.out).mono ?_
      rintro e w5 ⟨r, rfl, hr, hb5⟩
      have HQ5 := Lib.hid (HQ4.out.below hb5)
      have HR5 := Lib.hid (NatAt.of_own hr)
      have HB5 := Lib.hid (HB4.out.trans (hb5.mono HB4.out.size))
      clear hr hb5
      go_wp2_with fail
      go_ret2
      refine ⟨_, _, rfl, ?_, ?_, HB5.out⟩
      · have h := HQ5.out
        rwa [HZ.out.2.2.2.2.2, HY0.out.1] at h
      · have h := HR5.out
        rwa [← HR0.out, HY0.out.1] at h
    · have h1I : ¬ (ly : Int) = 1 := by omega
      have HLY0 := Lib.hid (show 1 ≤ ly from by
        rcases Nat.eq_zero_or_pos ly with h0 | h0
        · exfalso
          have h2 := List.eq_nil_of_length_eq_zero (show ys.length = 0 by rw [HLEY.out, h0])
          have h3 := hDY.out.2.2.1
          rw [h2] at h3
          exact HB.out h3.symm
        · exact h0)
      have HXL := Lib.hid (show lx ≤ 274877906944 from by have := hDX.out.2.2.2; have := HLEX.out; have := LA.out; omega)
      have HTOP := Lib.hid (show ys.getD (ly - 1) 0 ≠ 0 from by
        rcases hDY.out.2.1 with h0 | h0
        · exfalso
          have h3 := hDY.out.2.2.1
          rw [h0] at h3
          exact HB.out h3.symm
        · rwa [HLEY.out] at h0)
      have HGE := Lib.hid (show ly ≤ lx by omega)
      clear hlt h1
      go_wp2_with fail
      refine (ref_long Ax Ay lx ly cx cy (ly - 1) xs ys w2 HLX.out HLY.out hDX.out.1 hDY.out.1 HLEX.out.symm HLEY.out.symm (by have := HLY0.out; omega) HGE.out HXL.out HTOP.out).mono ?_
      rintro e w3 ⟨Aq, lq, cq, zs, Ar, lr, cr, rs, rfl, hzl, hzc, hzl2, hzlim, hzt, hzv, hrl, hrc, hrl2, hrlim, hrt, hrv, hb3⟩
      rw [hDX.out.2.2.1, hDY.out.2.2.1] at hzv hrv
      have HZ := Lib.hid (And.intro hzl (And.intro hzc (And.intro hzl2 (And.intro hzlim (And.intro hzt hzv)))))
      have HRR := Lib.hid (And.intro hrl (And.intro hrc (And.intro hrl2 (And.intro hrlim (And.intro hrt hrv)))))
      have HB3 := Lib.hid (HB2.out.trans (hb3.mono HB2.out.size))
      clear hzl hzc hzl2 hzlim hzt hzv hrl hrc hrl2 hrlim hrt hrv hb3
      go_wp2_with fail
      refine (ref_limbs Aq lq cq zs w3 HZ.out.2.2.2.1 HZ.out.2.2.2.2.1 HZ.out.1 (by have := HZ.out.1; have := HZ.out.2.2.1; have := HXL.out; omega)).mono ?_
      rintro e w4 ⟨q, rfl, hq, hb4⟩
      have HQ4 := Lib.hid (NatAt.of_own hq)
      have HB4 := Lib.hid (HB3.out.trans (hb4.mono HB3.out.size))
      have HRL := Lib.hid ((HRR.out.2.2.2.1.below hb4).more hb4.size)
      clear hq hb4
      go_wp2_with fail
      refine (ref_limbs Ar lr cr rs w4 HRL.out HRR.out.2.2.2.2.1 HRR.out.1 (by have := HRR.out.1; have := HRR.out.2.2.1; have := HXL.out; omega)).mono ?_
      rintro e w5 ⟨r, rfl, hr, hb5⟩
      have HQ5 := Lib.hid (HQ4.out.below hb5)
      have HR5 := Lib.hid (NatAt.of_own hr)
      have HB5 := Lib.hid (HB4.out.trans (hb5.mono HB4.out.size))
      clear hr hb5
      go_wp2_with fail
      go_ret2
      refine ⟨_, _, rfl, ?_, ?_, HB5.out⟩
      · have h := HQ5.out
        rwa [HZ.out.2.2.2.2.2] at h
      · have h := HR5.out
        rwa [HRR.out.2.2.2.2.2] at h
set_option maxHeartbeats 1000000 in
set_option maxRecDepth 100000 in
theorem nat_root (u : Value) (a : Nat) (w : World) (hu : NatAt w u a) (la : lc a ≤ 4096) :
    Calls Try.prog 77 #[u] w fun e w' => ∃ r, e = .returned r ∧ NatAt w' r (isqrt a) ∧ Below w.heap.size w w' := by
  have HU := Lib.hid hu
  have LA := Lib.hid la
  obtain ⟨b, hb⟩ : ∃ b, nbits a = b := ⟨_, rfl⟩
  have HB := Lib.hid hb
  have HBL := Lib.hid (show b ≤ 262144 from by have h := Nat.le_trans (nbits_le_lc a) (Nat.mul_le_mul_left 64 la); omega)
  clear hu la
  go_enter Try.func77, Try.ntmps77
  go_wp2_with fail
  refine (nat_bits HU.out (by have := LA.out; omega)).mono ?_
  rintro e w1 ⟨rfl, hb1⟩
  have HU1 := Lib.hid (HU.out.below hb1)
  have HB1 := Lib.hid hb1
  rw [hb]
  clear hb hb1
  by_cases h0 : b = 0
  · have h0' : (b : Int) = 0 := by omega
    rw [h0']
    have H0 := Lib.hid h0
    clear h0 h0'
    go_wp2_with fail
    go_ret
    have e0 : a = 0 := by
      have h : nbits a ≤ 0 := by have := HB.out; have := H0.out; omega
      have := nbits_le.1 h
      omega
    refine ⟨_, rfl, ?_, HB1.out⟩
    rw [e0, show isqrt 0 = 0 from by have := (isqrt_spec 0).1; rcases Nat.eq_zero_or_pos (isqrt 0) with h | h; exact h; have := Nat.mul_pos h h; omega]
    exact NatAt.nil _
  · have h0' : ¬ (b : Int) = 0 := by omega
    have hbI : (b : Int) ≤ 262144 := by have := HBL.out; omega
    have hb0 : (0 : Int) ≤ (b : Int) := by omega
    have HBN := Lib.hid h0
    clear h0
    go_wp2_with fail
    refine (ref_of 1 w1 (by rw [W64_eq]; omega)).mono ?_
    rintro e w2 ⟨v1, rfl, hv1, hb2⟩
    have HV1 := Lib.hid (NatAt.of_own hv1)
    have HU2 := Lib.hid (HU1.out.below hb2)
    have HB2 := Lib.hid (HB1.out.trans (hb2.mono HB1.out.size))
    clear hv1 hb2
    go_wp2_with fail
    refine (nat_bits HU2.out (by have := LA.out; omega)).mono ?_
    rintro e w3 ⟨rfl, hb3⟩
    have HV3 := Lib.hid (HV1.out.below hb3)
    have HU3 := Lib.hid (HU2.out.below hb3)
    have HB3 := Lib.hid (HB2.out.trans (hb3.mono HB2.out.size))
    rw [HB.out]
    clear hb3
    obtain ⟨k, hk⟩ : ∃ k, (b + 1) / 2 = k := ⟨_, rfl⟩
    have hkI : ((b : Int) + 1).tdiv 2 = (k : Int) := by rw [Int.tdiv_eq_ediv_of_nonneg (by omega)]; omega
    have hkI2 : ((b : Int) + 1) / 2 = (k : Int) := by omega
    have HK := Lib.hid hk
    have hkb : k ≤ 262144 := by omega
    have hk0 : (k : Int) ≤ 262144 := by omega
    clear hk
    go_wp2_with fail
    refine (nat_up k HV3.out (Nat.le_trans (lc_limb (by rw [W64_eq]; omega)) (by omega)) (by omega)).mono ?_
    rintro e w4 ⟨x0, rfl, hx0, -, hb4⟩
    rw [Nat.one_mul] at hx0
    have HU4 := Lib.hid (HU3.out.below hb4)
    have HB4 := Lib.hid (HB3.out.trans (hb4.mono HB3.out.size))
    obtain ⟨N0, hN0⟩ : ∃ N0, 2 ^ k = N0 := ⟨_, rfl⟩
    have HN0 := Lib.hid (show 0 < N0 ∧ isqrt a ≤ N0 ∧ lc N0 ≤ 4097 from by
      rw [← hN0, ← HK.out, ← HB.out]
      exact ⟨Nat.pow_pos (by omega), isqrt_begin a, Nat.le_trans (lc_pow_half a) (by have := LA.out; omega)⟩)
    rw [hN0] at hx0
    rename_i z1 z2 z3
    clear hN0 hb4 hkI hkI2 hkb hk0 h0' hbI hb0
    go_wp2_with fail
    go_loopg [3] N0 (fun gk t3 wr => NatAt wr t3 gk ∧ 0 < gk ∧ isqrt a ≤ gk ∧ gk ≤ N0 ∧ Below w.heap.size w wr)
    case atStart => exact ⟨hx0, HN0.out.1, HN0.out.2.1, Nat.le_refl _, HB4.out⟩
    case round =>
      clear hx0
      obtain ⟨hx, hg0, hir, hgN, hb⟩ := hrel
      have HX := Lib.hid hx
      have HG := Lib.hid (And.intro hg0 (And.intro hir hgN))
      have HBE := Lib.hid hb
      have HUr : Hid (NatAt wr u a) := Lib.hid (HU.out.below hb)
      have HLX := Lib.hid (show lc gk ≤ 4097 from Nat.le_trans (lc_mono hgN) HN0.out.2.2)
      clear hx hg0 hir hgN hb
      go_wp2_with fail
      refine (nat_div u _ a gk wr HUr.out HX.out (by have := LA.out; omega) (by have := HLX.out; omega) (by have := HG.out; omega)).mono ?_
      rintro e w5 ⟨q, r, rfl, hq, -, hb5⟩
      have HQ5 := Lib.hid hq
      have HX5 := Lib.hid (HX.out.below hb5)
      have HB5 := Lib.hid (HBE.out.trans (hb5.mono HBE.out.size))
      have HLQ := Lib.hid (show lc (a / gk) ≤ 4096 from Nat.le_trans (lc_mono (Nat.div_le_self _ _)) LA.out)
      clear hq hb5
      go_wp2_with fail
      refine (nat_add HX5.out HQ5.out (by have := HLX.out; omega) (by have := HLQ.out; omega)).mono ?_
      rintro e w6 ⟨s6, rfl, hs6, -, hb6⟩
      have HS6 := Lib.hid hs6
      have HX6 := Lib.hid (HX5.out.below hb6)
      have HB6 := Lib.hid (HB5.out.trans (hb6.mono HB5.out.size))
      have HLS := Lib.hid (show lc (gk + a / gk) ≤ 4100 from by have h := lc_add gk (a / gk); have := HLX.out; have := HLQ.out; omega)
      clear hs6 hb6
      go_wp2_with fail
      refine (ref_of 2 w6 (by rw [W64_eq]; omega)).mono ?_
      rintro e w7 ⟨v7, rfl, hv7, hb7⟩
      have HV7 := Lib.hid (NatAt.of_own hv7)
      have HS7 := Lib.hid (HS6.out.below hb7)
      have HX7 := Lib.hid (HX6.out.below hb7)
      have HB7 := Lib.hid (HB6.out.trans (hb7.mono HB6.out.size))
      clear hv7 hb7
      go_wp2_with fail
      refine (nat_div _ _ (gk + a / gk) 2 w7 HS7.out HV7.out (by have := HLS.out; omega) (Nat.le_trans (lc_limb (by rw [W64_eq]; omega)) (by omega)) (by omega)).mono ?_
      rintro e w8 ⟨y8, r8, rfl, hy8, -, hb8⟩
      obtain ⟨Y, hY⟩ : ∃ Y, (gk + a / gk) / 2 = Y := ⟨_, rfl⟩
      have HY := Lib.hid hY
      rw [hY] at hy8
      have HY8 := Lib.hid hy8
      have HX8 := Lib.hid (HX7.out.below hb8)
      have HB8 := Lib.hid (HB7.out.trans (hb8.mono HB7.out.size))
      have HLY := Lib.hid (show lc Y ≤ 4100 from by rw [← hY]; exact Nat.le_trans (lc_mono (Nat.div_le_self _ _)) HLS.out)
      clear hy8 hb8 hY
      go_wp2_with fail
      refine (nat_cmp HY8.out HX8.out (by have := HLY.out; omega) (by have := HLX.out; omega)).mono ?_
      rintro e w9 ⟨rfl, hb9⟩
      have HY9 := Lib.hid (HY8.out.below hb9)
      have HX9 := Lib.hid (HX8.out.below hb9)
      have HB9 := Lib.hid (HB8.out.trans (hb9.mono HB8.out.size))
      clear hb9
      rcases Nat.lt_or_ge Y gk with hlt | hge
      · have HLT := Lib.hid hlt
        have HST := Lib.hid (show isqrt a ≤ Y from by rw [← HY.out]; exact isqrt_step HG.out.1)
        rw [cmpN_lt hlt]
        clear hlt
        go_wp2_with fail
        go_roundg Y
        case measure => exact HLT.out
        case rel =>
          refine ⟨HY9.out, ?_, HST.out, by have := HLT.out; have := HG.out.2.2; omega, HB9.out⟩
          have h1 : 1 ≤ isqrt a := le_isqrt.2 (by
            rcases Nat.eq_zero_or_pos a with h | h
            · subst h
              have h2 := HB.out
              rw [nbits_zero] at h2
              exact absurd h2.symm HBN.out
            · omega)
          have := HST.out
          omega
      · have HIX := Lib.hid (show isqrt a = gk from (isqrt_stop HG.out.2.1 (by rw [HY.out]; exact hge)).symm)
        obtain ⟨cc, hc, hc0⟩ : ∃ cc : Int, cmpN Y gk = cc ∧ 0 ≤ cc := by
          rcases Nat.lt_or_eq_of_le hge with h | h
          · exact ⟨1, cmpN_gt h, by omega⟩
          · exact ⟨0, cmpN_eq h.symm, by omega⟩
        rw [hc]
        clear hge hc
        go_wp2_with fail
        go_ret
        refine ⟨_, rfl, ?_, HB9.out⟩
        rw [HIX.out]
        exact HX9.out
end Go.Proofs.Ytmnfokapdipcdaa
