import Derived.Test.YtonbhpadoplpkaaGreatRef10
import Derived.Test.YtonbhpadoplpkaaGreatR18
/- The package rosetteref00: NatDiv, NatRoot. -/
namespace Go.Proofs.YtonbhpadoplpkaaGreat
open Go.RowKit Go.Deep
set_option maxHeartbeats 1000000 in
set_option maxRecDepth 100000 in
theorem nat_div (u v : Value) (a b : Nat) (w : World) (hu : NatAt w u a) (hv : NatAt w v b) (la : lc a ≤ 68719476736) (lb : lc b ≤ 68719476736) (hb : b ≠ 0) :
    Calls Tryz.prog 55 #[u, v] w fun e w' => ∃ q r, e = .returned (.tuple #[q, r]) ∧ NatAt w' q (a / b) ∧ NatAt w' r (a % b) ∧ Below w.heap.size w w' := by
  have HU := Lib.hid hu
  have HV := Lib.hid hv
  obtain ⟨A1, l1, c1, rfl, e1, hc1, h1⟩ := hu
  obtain ⟨A2, l2, c2, rfl, e2, hc2, h2⟩ := hv
  have H1 := Lib.hid (And.intro e1 (And.intro hc1 h1))
  have H2 := Lib.hid (And.intro e2 (And.intro hc2 h2))
  have LA := Lib.hid la
  have LB := Lib.hid lb
  have HB := Lib.hid hb
  clear e1 hc1 h1 e2 hc2 h2 la lb hb
  go_enter Tryz.func55, Tryz.ntmps55
  go_wp2_with fail
  refine (ref_halves A1 l1 c1 (limbs a) w H1.out.2.2 H1.out.1 (by have := H1.out.1; have := LA.out; unfold lc at this; omega)).mono ?_
  rintro e w1 ⟨x, rfl, hx, hb1⟩
  have HX1 := Lib.hid (hx.mono (Nat.zero_le _))
  have HB1 := Lib.hid hb1
  have H21 := Lib.hid ((H2.out.2.2.below hb1).more hb1.size)
  clear hx hb1
  go_wp2_with fail
  refine (ref_halves A2 l2 c2 (limbs b) w1 H21.out H2.out.1 (by have := H2.out.1; have := LB.out; unfold lc at this; omega)).mono ?_
  rintro e w2 ⟨y, rfl, hy, hb2⟩
  have hx2 := HX1.out.below hb2
  have HB2 := Lib.hid (HB1.out.trans (hb2.mono HB1.out.size))
  obtain ⟨Ax, cx, rfl, hcx, hlx, _⟩ := hx2.form
  obtain ⟨Ay, cy, rfl, hcy, hly, _⟩ := hy.form
  have hDX : Hid (Tiny (dig (limbs a)) ∧ Norm (dig (limbs a)) ∧ val32 (dig (limbs a)) = a ∧ (dig (limbs a)).length ≤ 2 * lc a) := Lib.hid ⟨tiny_dig (small_limbs a), norm_dig _, by rw [val32_dig, val_limbs], dig_length _⟩
  have hDY : Hid (Tiny (dig (limbs b)) ∧ Norm (dig (limbs b)) ∧ val32 (dig (limbs b)) = b ∧ (dig (limbs b)).length ≤ 2 * lc b) := Lib.hid ⟨tiny_dig (small_limbs b), norm_dig _, by rw [val32_dig, val_limbs], dig_length _⟩
  obtain ⟨xs, hxs⟩ : ∃ xs, dig (limbs a) = xs := ⟨_, rfl⟩
  obtain ⟨ys, hys⟩ : ∃ ys, dig (limbs b) = ys := ⟨_, rfl⟩
  rw [hxs] at hDX hlx hcx ⊢
  rw [hys] at hDY hly hcy ⊢
  have HLX := Lib.hid hlx
  have HLY := Lib.hid hly
  obtain ⟨lx, hlx'⟩ : ∃ lx, xs.length = lx := ⟨_, rfl⟩
  obtain ⟨ly, hly'⟩ : ∃ ly, ys.length = ly := ⟨_, rfl⟩
  rw [hlx'] at hcx ⊢
  rw [hly'] at hcy ⊢
  have HLEX := Lib.hid hlx'
  have HLEY := Lib.hid hly'
  have HCX := Lib.hid (And.intro hcx hcy)
  have HA2 := Lib.hid (HU.out.below HB2.out)
  clear hxs hys hx2 hy hlx hly hcx hcy hlx' hly' hb2 HX1 HB1 H21
  by_cases hlt : lx < ly
  · have hI : (lx : Int) < (ly : Int) := by omega
    have HAB := Lib.hid (show a < b from by
      refine Nat.lt_of_not_le fun hba => ?_
      have h1 := val32_lt hDX.out.1
      rw [hDX.out.2.2.1] at h1
      have h2 := norm_len hDY.out.2.1 (n := xs.length) (by rw [hDY.out.2.2.1]; omega)
      have := HLEX.out
      have := HLEY.out
      omega)
    clear hlt
    go_wp2_with fail
    refine (nat_trim HA2.out (by have := LA.out; omega)).mono ?_
    rintro e w3 ⟨r, rfl, hr, -, hb3⟩
    go_wp2_with fail
    go_ret2
    refine ⟨_, _, rfl, ?_, ?_, HB2.out.trans (hb3.mono HB2.out.size)⟩
    · rw [Nat.div_eq_of_lt HAB.out]; exact NatAt.nil _
    · rw [Nat.mod_eq_of_lt HAB.out]; exact hr
  · have hI : ¬ (lx : Int) < (ly : Int) := by omega
    by_cases h1 : ly = 1
    · have h1I : (ly : Int) = 1 := by omega
      obtain ⟨ad, rfl, _, hc0⟩ := HLY.out.at_ (k := 0) (by rw [HLEY.out]; omega)
      obtain ⟨y0, hy0⟩ : ∃ y0, ys.getD 0 0 = y0 := ⟨_, rfl⟩
      rw [hy0] at hc0
      have hc0' : w2.cell? ad = some (.int .u64 (y0 : Int)) := by simpa [Addr.add] using hc0
      have HY0 := Lib.hid (show y0 = b ∧ y0 < W32 from by
        have h2 := val32_take_step ys 0
        rw [List.take_of_length_le (by rw [HLEY.out]; omega), hDY.out.2.2.1, hy0] at h2
        refine ⟨by simpa [val32] using h2.symm, by rw [← hy0]; exact hDY.out.1.getD 0⟩)
      have HXL := Lib.hid (show lx ≤ 549755813888 from by have := hDX.out.2.2.2; have := HLEX.out; have := LA.out; omega)
      clear hlt h1 hy0
      go_wp2_with fail
      refine (ref_short Ax lx cx y0 xs w2 HLX.out hDX.out.1 HLEX.out.symm HXL.out (by have := HY0.out.1; have := HB.out; omega) HY0.out.2).mono ?_
      rintro e w3 ⟨Aq, lq, cq, zs, rfl, hzl, hzc, hzl2, hzlim, hzt, -, hzv, hb3⟩
      rw [hDX.out.2.2.1] at hzv ⊢
      have HZ := Lib.hid (And.intro hzl (And.intro hzc (And.intro hzl2 (And.intro hzlim (And.intro hzt hzv)))))
      have HB3 := Lib.hid (HB2.out.trans (hb3.mono HB2.out.size))
      obtain ⟨r0, hr0⟩ : ∃ r0, a % y0 = r0 := ⟨_, rfl⟩
      have HR0 := Lib.hid hr0
      rw [hr0]
      have HRW := Lib.hid (show r0 < W64 from by rw [← hr0]; exact Nat.lt_trans (Nat.mod_lt _ (by have := HY0.out.1; have := HB.out; omega)) (Nat.lt_trans HY0.out.2 W32_lt))
      clear hzl hzc hzl2 hzlim hzt hzv hb3 hr0
      go_wp2_with fail
      refine (ref_limbs Aq lq cq zs w3 HZ.out.2.2.2.1 HZ.out.2.2.2.2.1 HZ.out.1 (by have := HZ.out.1; have := HZ.out.2.2.1; have := HXL.out; omega)).mono ?_
      rintro e w4 ⟨q, rfl, hq, hb4⟩
      have HQ4 := Lib.hid (NatAt.of_own hq)
      have HB4 := Lib.hid (HB3.out.trans (hb4.mono HB3.out.size))
      clear hq hb4
      go_wp2_with fail
      refine (ref_of r0 w4 HRW.out).mono ?_
      rintro e w5 ⟨r, rfl, hr, hb5⟩
      have HQ5 := Lib.hid (HQ4.out.below hb5)
      have HR5 := Lib.hid (NatAt.of_own hr)
      have HB5 := Lib.hid (HB4.out.trans (hb5.mono HB4.out.size))
      clear hr hb5
      go_wp2_with fail
      go_ret2
      refine ⟨_, _, rfl, ?_, ?_, HB5.out⟩
      · have h := HQ5.out
        rwa [HZ.out.2.2.2.2.2, HY0.out.1] at h
      · have h := HR5.out
        rwa [← HR0.out, HY0.out.1] at h
    · have h1I : ¬ (ly : Int) = 1 := by omega
      have HLY0 := Lib.hid (show 1 ≤ ly from by
        rcases Nat.eq_zero_or_pos ly with h0 | h0
        · exfalso
          have h2 := List.eq_nil_of_length_eq_zero (show ys.length = 0 by rw [HLEY.out, h0])
          have h3 := hDY.out.2.2.1
          rw [h2] at h3
          exact HB.out h3.symm
        · exact h0)
      have HXL := Lib.hid (show lx ≤ 274877906944 from by have := hDX.out.2.2.2; have := HLEX.out; have := LA.out; omega)
      have HTOP := Lib.hid (show ys.getD (ly - 1) 0 ≠ 0 from by
        rcases hDY.out.2.1 with h0 | h0
        · exfalso
          have h3 := hDY.out.2.2.1
          rw [h0] at h3
          exact HB.out h3.symm
        · rwa [HLEY.out] at h0)
      have HGE := Lib.hid (show ly ≤ lx by omega)
      clear hlt h1
      go_wp2_with fail
      refine (ref_long Ax Ay lx ly cx cy (ly - 1) xs ys w2 HLX.out HLY.out hDX.out.1 hDY.out.1 HLEX.out.symm HLEY.out.symm (by have := HLY0.out; omega) HGE.out HXL.out HTOP.out).mono ?_
      rintro e w3 ⟨Aq, lq, cq, zs, Ar, lr, cr, rs, rfl, hzl, hzc, hzl2, hzlim, hzt, hzv, hrl, hrc, hrl2, hrlim, hrt, hrv, hb3⟩
      rw [hDX.out.2.2.1, hDY.out.2.2.1] at hzv hrv
      have HZ := Lib.hid (And.intro hzl (And.intro hzc (And.intro hzl2 (And.intro hzlim (And.intro hzt hzv)))))
      have HRR := Lib.hid (And.intro hrl (And.intro hrc (And.intro hrl2 (And.intro hrlim (And.intro hrt hrv)))))
      have HB3 := Lib.hid (HB2.out.trans (hb3.mono HB2.out.size))
      clear hzl hzc hzl2 hzlim hzt hzv hrl hrc hrl2 hrlim hrt hrv hb3
      go_wp2_with fail
      refine (ref_limbs Aq lq cq zs w3 HZ.out.2.2.2.1 HZ.out.2.2.2.2.1 HZ.out.1 (by have := HZ.out.1; have := HZ.out.2.2.1; have := HXL.out; omega)).mono ?_
      rintro e w4 ⟨q, rfl, hq, hb4⟩
      have HQ4 := Lib.hid (NatAt.of_own hq)
      have HB4 := Lib.hid (HB3.out.trans (hb4.mono HB3.out.size))
      have HRL := Lib.hid ((HRR.out.2.2.2.1.below hb4).more hb4.size)
      clear hq hb4
      go_wp2_with fail
      refine (ref_limbs Ar lr cr rs w4 HRL.out HRR.out.2.2.2.2.1 HRR.out.1 (by have := HRR.out.1; have := HRR.out.2.2.1; have := HXL.out; omega)).mono ?_
      rintro e w5 ⟨r, rfl, hr, hb5⟩
      have HQ5 := Lib.hid (HQ4.out.below hb5)
      have HR5 := Lib.hid (NatAt.of_own hr)
      have HB5 := Lib.hid (HB4.out.trans (hb5.mono HB4.out.size))
      clear hr hb5
      go_wp2_with fail
      go_ret2
      refine ⟨_, _, rfl, ?_, ?_, HB5.out⟩
      · have h := HQ5.out
        rwa [HZ.out.2.2.2.2.2] at h
      · have h := HR5.out
        rwa [HRR.out.2.2.2.2.2] at h
end Go.Proofs.YtonbhpadoplpkaaGreat
