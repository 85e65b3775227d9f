import Derived.Test.YtmnfokapdipcdaaR18
/- The reference of layer 18: Root. -/
namespace Go.Proofs.Ytmnfokapdipcdaa
open Go.RowKit Go.Deep
set_option maxHeartbeats 1000000 in
set_option maxRecDepth 100000 in
theorem r18_Root (u : Value) (a n : Nat) (w : World) (hu : NatAt w u a) (la : lc a ≤ 4096) (hn1 : 1 ≤ n) (hn : (n : Int) < 9223372036854775808) :
    Calls Try.prog 85 #[u, .int .i64 (n : Int)] w fun e w' => ∃ r, e = .returned r ∧ NatAt w' r (iroot n a) ∧ Below w.heap.size w w' := by
  have LA := Lib.hid la
  have HU := Lib.hid hu
  have HN := Lib.hid (And.intro hn1 hn)
  obtain ⟨b, hb⟩ : ∃ b, nbits a = b := ⟨_, rfl⟩
  have HB := Lib.hid hb
  have HBL := Lib.hid (show b ≤ 262144 from by have h := Nat.le_trans (nbits_le_lc a) (Nat.mul_le_mul_left 64 la); omega)
  clear hu la hn1 hn
  go_enter Try.func85, Try.ntmps85
  go_wp2_with fail
  refine (nat_bits HU.out (by have := LA.out; omega)).mono ?_
  rintro e w1 ⟨rfl, hb1⟩
  have HU1 := Lib.hid (HU.out.below hb1)
  have HB1 := Lib.hid hb1
  rw [hb]
  clear hb hb1
  by_cases h0 : b = 0
  · have h0' : (b : Int) = 0 := by omega
    rw [h0']
    have H0 := Lib.hid h0
    clear h0 h0'
    go_wp2_with fail
    go_ret
    have e0 : a = 0 := by
      have h : nbits a ≤ 0 := by have := HB.out; have := H0.out; omega
      have := nbits_le.1 h
      omega
    refine ⟨_, rfl, ?_, HB1.out⟩
    rw [e0, iroot_zero HN.out.1]
    exact NatAt.nil _
  · have h0' : ¬ (b : Int) = 0 := by omega
    have hA1 : 1 ≤ a := by
      rcases Nat.eq_zero_or_pos a with h | h
      · subst h
        have := HB.out
        rw [nbits_zero] at this
        omega
      · exact h
    have HA1 := Lib.hid hA1
    clear h0 hA1
    rcases Nat.lt_or_ge n b with hlt | hge
    · have hI : ¬ (b : Int) ≤ (n : Int) := by omega
      have HLT := Lib.hid hlt
      clear hlt
      by_cases h1 : n = 1
      · have h1' : (n : Int) = 1 := by omega
        have H1 := Lib.hid h1
        clear h1
        go_wp2_with fail
        refine (nat_trim HU1.out (by have := LA.out; omega)).mono ?_
        rintro e w2 ⟨r, rfl, hr, -, hb2⟩
        go_wp2_with fail
        go_ret
        refine ⟨_, rfl, ?_, HB1.out.trans (hb2.mono HB1.out.size)⟩
        rw [H1.out, iroot_one]
        exact hr
      · have h1' : ¬ (n : Int) = 1 := by omega
        have hn0 : ¬ (n : Int) = 0 := by have := HN.out; omega
        have hn0' : ((n : Int) == 0) = false := beq_eq_false_iff_ne.2 hn0
        obtain ⟨q, hq⟩ : ∃ q, b / n = q := ⟨_, rfl⟩
        have HQ := Lib.hid hq
        have hqI : (b : Int).tdiv (n : Int) = (q : Int) := by
          rw [Int.tdiv_eq_ediv_of_nonneg (by omega), ← hq]
          simp
        have hqb : q ≤ 262144 := by rw [← hq]; exact Nat.le_trans (Nat.div_le_self _ _) (by have := HBL.out; omega)
        have hqI2 : (q : Int) ≤ 262144 := by omega
        have hq0 : (0 : Int) ≤ (q : Int) := by omega
        have HQB := Lib.hid hqb
        clear h1 hq hqb
        go_wp2_with fail
        rename_i z1 z2 z3 k1 k2
        clear z1 z2 z3 hI h0' h1' hn0 hn0'
        go_loopw [6, 7] (fun t6 t7 wr => ∃ k R : Nat, k ≤ q + 2 ∧ t7 = .int .i64 ((k : Int) - 1) ∧ Bitwise a n k R ∧ R + 2 ^ k ≤ 2 ^ (q + 2) ∧ NatAt wr t6 R ∧ Below w.heap.size w wr) (fun _ t7 _ => (intOf t7 + 1).toNat)
        case atStart =>
          refine ⟨q + 2, 0, Nat.le_refl _, by go_num, Bitwise.start HN.out.1 ?_, by omega, NatAt.nil _, HB1.out⟩
          have h := iroot_start (n := n) (a := a) HN.out.1
          rw [HB.out, HQ.out] at h
          exact Nat.lt_of_lt_of_le h (Nat.pow_le_pow_left (Nat.pow_le_pow_right (by omega) (by omega)) n)
        case round =>
          obtain ⟨k, R, hk, rfl, hbw, hR, hr, hb⟩ := hrel
          have HR := Lib.hid hr
          have HBE := Lib.hid hb
          have HBW := Lib.hid hbw
          have HX := Lib.hid hR
          have HK := Lib.hid hk
          clear hr hb hbw hR hk
          rcases k with _ | k
          · have HE := Lib.hid (Bitwise.root HN.out.1 HBW.out)
            clear hqI hqI2 hq0
            go_wp2_with fail
            go_ret
            refine ⟨_, rfl, ?_, HBE.out⟩
            rw [HE.out]
            exact HR.out
          · have e1 : ((k + 1 : Nat) : Int) - 1 = (k : Int) := by omega
            have hk0 : (0 : Int) ≤ (k : Int) := by omega
            have hkq : (k : Int) ≤ 262145 := by have := HK.out; omega
            rw [e1]
            have HX2 := Lib.hid (show R + 2 ^ k ≤ 2 ^ (q + 2) by have h := HX.out; rw [Nat.pow_succ] at h; omega)
            have HLX := Lib.hid (show lc (R + 2 ^ k) ≤ 4100 from lc_le_nbits.2 (by
              have h := nbits_le.2 (Nat.lt_of_le_of_lt HX2.out (Nat.pow_lt_pow_right (by omega) (show q + 2 < q + 3 by omega)))
              have := HQB.out
              omega))
            have HLR := Lib.hid (show lc R ≤ 4100 from Nat.le_trans (lc_mono (Nat.le_add_right _ _)) HLX.out)
            have HLK := Lib.hid (show lc (1 * 2 ^ k) ≤ 4100 from by rw [Nat.one_mul]; exact Nat.le_trans (lc_mono (Nat.le_add_left _ _)) HLX.out)
            have HUr := Lib.hid (HU.out.below HBE.out)
            clear hqI hqI2 hq0
            go_wp2_with fail
            refine (r18_one _).mono ?_
            rintro e w2 ⟨v2, rfl, hv2, hb2⟩
            have HR2 := Lib.hid (HR.out.below hb2)
            have HU2 := Lib.hid (HUr.out.below hb2)
            have HB2 := Lib.hid (HBE.out.trans (hb2.mono HBE.out.size))
            clear hb2
            go_wp2_with fail
            refine (nat_up k hv2 (Nat.le_trans (lc_limb (by rw [W64_eq]; omega)) (by omega)) (by omega)).mono ?_
            rintro e w3 ⟨v3, rfl, hv3, -, hb3⟩
            have HR3 := Lib.hid (HR2.out.below hb3)
            have HU3 := Lib.hid (HU2.out.below hb3)
            have HB3 := Lib.hid (HB2.out.trans (hb3.mono HB2.out.size))
            clear hb3 hv2
            go_wp2_with fail
            refine (nat_add HR3.out hv3 (by have := HLR.out; omega) (by have := HLK.out; omega)).mono ?_
            rintro e w4 ⟨v4, rfl, hv4, -, hb4⟩
            rw [Nat.one_mul] at hv4
            have HR4 := Lib.hid (HR3.out.below hb4)
            have HU4 := Lib.hid (HU3.out.below hb4)
            have HB4 := Lib.hid (HB3.out.trans (hb4.mono HB3.out.size))
            have HV4 := Lib.hid hv4
            clear hb4 hv3 hv4
            go_wp2_with fail
            refine (r18_power v4 u (R + 2 ^ k) a n w4 HV4.out HU4.out (by have := HLX.out; omega) (by have := LA.out; omega) (by have := HN.out; have := HLT.out; have := HBL.out; omega)).mono ?_
            rintro e w5 ⟨v5, p, rfl, hv5, hps, hb5⟩
            have HR5 := Lib.hid (HR4.out.below hb5)
            have HU5 := Lib.hid (HU4.out.below hb5)
            have HV5 := Lib.hid (HV4.out.below hb5)
            have HB5 := Lib.hid (HB4.out.trans (hb5.mono HB4.out.size))
            have HPS := Lib.hid hps
            clear hb5 hps
            go_wp2_with fail
            refine (nat_cmp hv5 HU5.out (by have := HPS.out.len; have := HLX.out; have := LA.out; omega) (by have := LA.out; omega)).mono ?_
            rintro e w6 ⟨rfl, hb6⟩
            have HR6 := Lib.hid (HR5.out.below hb6)
            have HV6 := Lib.hid (HV5.out.below hb6)
            have HB6 := Lib.hid (HB5.out.trans (hb6.mono HB5.out.size))
            clear hb6 hv5
            by_cases hfit : (R + 2 ^ k) ^ n ≤ a
            · have HF := Lib.hid (HBW.out.up hfit)
              have hp : p = (R + 2 ^ k) ^ n := by
                rcases HPS.out.or with h | h
                · exact h
                · have := h.2; omega
              rcases Nat.lt_or_eq_of_le hfit with h | h
              · rw [hp, cmpN_lt h]
                clear hfit hp h
                go_wp2_with fail
                exact ⟨⟨k, R + 2 ^ k, by have := HK.out; omega, by go_num, HF.out, by have h := HX.out; rw [Nat.pow_succ] at h; omega, HV6.out, HB6.out⟩, by simp [intOf]⟩
              · rw [hp, cmpN_eq h]
                clear hfit hp h
                go_wp2_with fail
                exact ⟨⟨k, R + 2 ^ k, by have := HK.out; omega, by go_num, HF.out, by have h := HX.out; rw [Nat.pow_succ] at h; omega, HV6.out, HB6.out⟩, by simp [intOf]⟩
            · have HF := Lib.hid (HBW.out.stay hfit)
              have hp : a < p := by
                rcases HPS.out.or with h | h
                · omega
                · exact h.1
              rw [cmpN_gt hp]
              clear hfit hp
              go_wp2_with fail
              exact ⟨⟨k, R, by have := HK.out; omega, by go_num, HF.out, HX2.out, HR6.out, HB6.out⟩, by simp [intOf]⟩
    · have hI : (b : Int) ≤ (n : Int) := by omega
      have HGE := Lib.hid hge
      clear hge
      go_wp2_with fail
      refine (r18_one _).mono ?_
      rintro e w2 ⟨r, rfl, hr, hb2⟩
      go_wp2_with fail
      go_ret
      refine ⟨_, rfl, ?_, HB1.out.trans (hb2.mono HB1.out.size)⟩
      rw [iroot_few HN.out.1 HA1.out (by rw [HB.out]; exact HGE.out)]
      exact hr
end Go.Proofs.Ytmnfokapdipcdaa
