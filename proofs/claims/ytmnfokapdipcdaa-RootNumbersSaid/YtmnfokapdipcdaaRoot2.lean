import Derived.Test.YtmnfokapdipcdaaRoot1
/- The package root: newton, floor. -/
namespace Go.Proofs.Ytmnfokapdipcdaa
open Go.RowKit Go.Deep
/-- Sizes in newton: no number has more than 8300 limbs. -/
theorem newton_len {A n X : Nat} (hA : nbits A ≤ 262144) (hn : n + 1 ≤ nbits A) (hX : X ≤ 2 ^ (nbits A / (n + 1) + 1)) : lc (X ^ n) ≤ 8300 ∧ lc X ≤ 8300 ∧ lc (X * n) ≤ 8300 := by
  obtain ⟨b, hb⟩ : ∃ b, nbits A = b := ⟨_, rfl⟩
  rw [hb] at hA hn hX
  have hd : b / (n + 1) ≤ b := Nat.div_le_self _ _
  have h1 : nbits X ≤ b / (n + 1) + 2 := nbits_le.2 (Nat.lt_of_le_of_lt hX (Nat.pow_lt_pow_right (by omega) (by omega)))
  have h2 : lc X ≤ 4100 := lc_le_nbits.2 (by omega)
  have h3 : X ^ n ≤ 2 ^ ((b / (n + 1) + 1) * n) := by rw [Nat.pow_mul]; exact Nat.pow_le_pow_left hX n
  have h4 : (b / (n + 1) + 1) * n ≤ b + n := by
    have h := Nat.div_mul_le_self b (n + 1)
    generalize b / (n + 1) = q at h
    rw [Nat.mul_add, Nat.mul_one] at h
    rw [Nat.add_mul, Nat.one_mul]
    omega
  have h5 : nbits (X ^ n) ≤ (b / (n + 1) + 1) * n + 1 := nbits_le.2 (Nat.lt_of_le_of_lt h3 (Nat.pow_lt_pow_right (by omega) (by omega)))
  have h6 : lc (X ^ n) ≤ 8300 := lc_le_nbits.2 (by omega)
  have h7 := lc_mul X n
  have h8 : lc n ≤ 1 := lc_limb (by rw [W64_eq]; omega)
  omega
theorem lc_cast {n : Nat} {L : Nat} (h : lc n ≤ L) : (limbs ((n : Nat) : Int).natAbs).length ≤ L := by rw [Int.natAbs_natCast]; exact h
set_option maxHeartbeats 2000000 in
set_option maxRecDepth 100000 in
theorem root_newton (ga n A : Nat) (w : World) (ha : IntAt w ga (A : Int)) (hn1 : 2 ≤ n) (hn : n ≤ nbits A) (hA : nbits A ≤ 262144) :
    Calls Try.prog 132 #[.pointer (some ⟨ga, 0, none⟩), .int .i64 (n : Int)] w fun e w' => ∃ g, e = .returned (.pointer (some ⟨g, 0, none⟩)) ∧ w.heap.size ≤ g ∧ IntAt w' g (iroot n A : Nat) ∧ Below w.heap.size w w' := by
  obtain ⟨m, rfl⟩ : ∃ m, n = m + 1 := ⟨n - 1, by omega⟩
  have HAL := Lib.hid (show (limbs ((A : Nat) : Int).natAbs).length ≤ 4096 by rw [Int.natAbs_natCast]; exact lc_le_nbits.2 (by omega))
  have HN := Lib.hid hn
  have HA := Lib.hid hA
  have hmI : (m : Int) + 1 ≤ 262144 := by omega
  have hm0 : ((m : Int) + 1 == 0) = false := beq_eq_false_iff_ne.2 (by omega)
  clear hn
  go_enter Try.func132, Try.ntmps132
  go_wp2_with fail
  have hA1 := Ext.alloc w (.cells #[.bool false, .slice none 0 0] 84)
  have hf := IntAt.fresh w
  obtain ⟨gx, hgx⟩ : ∃ gx, w.heap.size = gx := ⟨_, rfl⟩
  have HGX := Lib.hid hgx
  have hsz : (w.alloc (.cells #[.bool false, .slice none 0 0] 84)).heap.size = gx + 1 := by simp [hgx]
  refine (big_newInt 1 _ (by omega) (by omega)).mono ?_
  rintro e w1 ⟨rfl, h1, he1⟩
  rw [hsz] at h1 ⊢
  have hE1 : Ext Nix w w1 := hA1.later (he1.mono (fun _ _ h => h) (fun _ h => h.elim))
  have hf1 := hf.ext he1 (fun h => h)
  rw [hgx] at hf1 ⊢
  have ha1 := ha.ext hE1 (fun h => h)
  have hal := ha.lt
  have hgl1 := hf1.lt
  clear hA1 hf hsz he1 hgx
  go_wp2_with fail
  refine (int_bitlen ga (A : Int) w1 ha1 (by have := HAL.out; omega)).mono ?_
  rintro e w2 ⟨rfl, rfl⟩
  rw [Int.natAbs_natCast]
  obtain ⟨b, hb⟩ : ∃ b, nbits A = b := ⟨_, rfl⟩
  have HB := Lib.hid hb
  rw [hb]
  obtain ⟨q, hq⟩ : ∃ q, b / (m + 1) = q := ⟨_, rfl⟩
  have HQ := Lib.hid hq
  have hqI : (b : Int).tdiv ((m : Int) + 1) = (q : Int) := by
    rw [Int.tdiv_eq_ediv_of_nonneg (by omega), ← hq]
    simp
  have hqb : q ≤ 262144 := by rw [← hq]; exact Nat.le_trans (Nat.div_le_self _ _) (by omega)
  have hq0 : (q : Int) + 1 ≤ 262145 := by omega
  clear hb hq
  go_wp2_with fail
  have kl := int_lsh gx (gx + 1) (q + 1) 0 1 w1 hf1 h1 (by rw [show (1 : Int).natAbs = 1 from rfl]; have := lc_limb (x := 1) (by rw [W64_eq]; omega); unfold lc at this; omega) (by omega)
  rw [show (1 : Int) * 2 ^ (q + 1) = ((2 ^ (q + 1) : Nat) : Int) by simp, Int.natCast_add, Int.natCast_one] at kl
  refine kl.mono ?_
  clear kl
  rintro e w3 ⟨rfl, hx3, he3⟩
  have hE3 := hE1.hidden he3 (by rw [HGX.out]; exact Nat.le_refl _)
  have ha3 := ha.ext hE3 (fun h => h)
  clear h1 hE1 hf1 ha1 hgl1
  go_wp2_with fail
  have kn := big_newInt (m : Int) w3 (by omega) (by omega)
  refine kn.mono ?_
  clear kn
  rintro e w4 ⟨rfl, hl4, he4⟩
  obtain ⟨gl, hgl⟩ : ∃ gl, w3.heap.size = gl := ⟨_, rfl⟩
  have HGL := Lib.hid hgl
  rw [hgl] at hl4 ⊢
  have hx4 := hx3.ext he4 (fun h => h)
  have hE4 := hE3.later (he4.mono (fun _ _ h => h) (fun _ h => h.elim))
  have hxl3 := hx3.lt
  clear hgl he3 he4 hx3 hE3 ha3
  go_wp2_with fail
  have kn := big_newInt ((m : Int) + 1) w4 (by omega) (by omega)
  refine kn.mono ?_
  clear kn
  rintro e w5 ⟨rfl, hn5, he5⟩
  obtain ⟨gn, hgn⟩ : ∃ gn, w4.heap.size = gn := ⟨_, rfl⟩
  have HGN := Lib.hid hgn
  rw [hgn] at hn5 ⊢
  have hx5 := hx4.ext he5 (fun h => h)
  have hl5 := hl4.ext he5 (fun h => h)
  have hll4 := hl4.lt
  have hE5 := hE4.later (he5.mono (fun _ _ h => h) (fun _ h => h.elim))
  have ha5 := ha.ext hE5 (fun h => h)
  have HXG := Lib.hid (show gx < gl ∧ gl < gn by have := HGL.out; have := HGN.out; omega)
  have HST := Lib.hid (show iroot (m + 1) A < 2 ^ (q + 1) by
    refine lt_of_pow_lt (n := m + 1) (Nat.lt_of_le_of_lt (iroot_pow (by omega) A) ?_)
    have h := iroot_start (n := m + 1) (a := A) (by omega)
    rwa [HB.out, HQ.out] at h)
  clear hgn he5 hx4 hl4 hE4 hxl3 hll4
  obtain ⟨N0, hN0⟩ : ∃ N0, 2 ^ (q + 1) = N0 := ⟨_, rfl⟩
  rw [hN0] at hx5 HST
  have HN0 := Lib.hid hN0
  have h0N : 0 < N0 := by rw [← hN0]; exact Nat.pow_pos (by omega)
  clear hN0
  go_upto_block 1 with (fail)
  go_loopg [5] N0 (fun gk t5 wr => ∃ g, t5 = .pointer (some ⟨g, 0, none⟩) ∧ w.heap.size ≤ g ∧ IntAt wr g (gk : Int) ∧ 0 < gk ∧ iroot (m + 1) A ≤ gk ∧ gk ≤ N0 ∧ IntAt wr gl (m : Int) ∧ IntAt wr gn ((m : Int) + 1) ∧ Ext Nix w wr)
  case atStart => exact ⟨gx, rfl, by rw [HGX.out]; exact Nat.le_refl _, hx5, h0N, Nat.le_of_lt HST.out, Nat.le_refl _, hl5, hn5, hE5⟩
  case round =>
    clear hx5 hl5 hn5 hE5 ha5 h0N
    obtain ⟨g, rfl, hwg, hx, hg0, hir, hgN, hl, hn, hE⟩ := hrel
    obtain ⟨L1, L2, L3⟩ := newton_len (n := m) HA.out HN.out (X := gk) (by rw [HB.out, HQ.out, HN0.out]; exact hgN)
    have HLP := Lib.hid L1
    have HLX := Lib.hid L2
    have HLM := Lib.hid L3
    have HIR := Lib.hid (And.intro hg0 (And.intro hir hgN))
    have HWG := Lib.hid hwg
    have HE := Lib.hid hE
    obtain ⟨Y, hY⟩ : ∃ Y, (A / gk ^ m + gk * m) / (m + 1) = Y := ⟨_, rfl⟩
    have HY := Lib.hid hY
    have hA1 := Ext.alloc wr (.cells #[.bool false, .slice none 0 0] 84)
    have hf := IntAt.fresh wr
    have hx1 := hx.ext hA1 (fun h => h)
    have hl1 := hl.ext hA1 (fun h => h)
    have hn1' := hn.ext hA1 (fun h => h)
    have ha1 := (ha.ext hE (fun h => h)).ext hA1 (fun h => h)
    obtain ⟨gy, hgy⟩ : ∃ gy, wr.heap.size = gy := ⟨_, rfl⟩
    have hgl := hx.lt
    have hgyg : g < gy ∧ w.heap.size ≤ gy ∧ gl < gy ∧ gn < gy ∧ ga < gy := by
      have := hl.lt
      have := hn.lt
      have := hE.size
      omega
    have HGY := Lib.hid hgy
    have HGYG := Lib.hid hgyg
    rw [hgy] at hf
    clear L1 L2 L3 hg0 hir hgN hwg hx hl hn hE hgy hgyg hY hgl
    go_wp2_with fail
    rw [HGY.out]
    have hszA : (wr.alloc (.cells #[.bool false, .slice none 0 0] 84)).heap.size = gy + 1 := by simp [HGY.out]
    refine (root_power g m (gk : Int) _ hx1 (by rw [Int.natAbs_pow, Int.natAbs_natCast]; have := HLP.out; unfold lc at this; omega) (lc_cast (Nat.le_trans HLX.out (by omega))) (by omega)).mono ?_
    rintro e w6 ⟨gp, rfl, hgp, hp, hb6⟩
    rw [hszA] at hgp
    have hE6 : Ext Nix wr w6 := hA1.later (Ext.of_below hb6)
    have hf6 := hf.below hb6
    have hx6 := hx1.below hb6
    have hl6 := hl1.below hb6
    have hn6 := hn1'.below hb6
    have ha6 := ha1.below hb6
    rw [show ((gk : Int) ^ m) = ((gk ^ m : Nat) : Int) by simp] at hp
    have HPP := Lib.hid (show ((gk ^ m : Nat) : Int) ≠ 0 by
      have := Nat.pow_pos (n := m) HIR.out.1
      omega)
    have HGP := Lib.hid hgp
    clear hA1 hf hx1 hl1 hn1' ha1 hszA hb6 hgp
    go_wp2_with fail
    refine (int_quo gy ga gp 0 (A : Int) ((gk ^ m : Nat) : Int) w6 hf6 ha6 hp HPP.out (by have := HAL.out; omega) (lc_cast (Nat.le_trans HLP.out (by omega)))).mono ?_
    rintro e w7 ⟨rfl, hy7, he7⟩
    rw [show ((A : Int).tdiv ((gk ^ m : Nat) : Int)) = ((A / gk ^ m : Nat) : Int) by rw [Int.tdiv_eq_ediv_of_nonneg (by omega)]; simp] at hy7
    have hE7 : Ext Nix wr w7 := hE6.hidden he7 (by rw [HGY.out]; exact Nat.le_refl _)
    have hx7 := hx6.ext he7 (fun h => by have := HGYG.out; have h : g = gy := h; omega)
    have hl7 := hl6.ext he7 (fun h => by have := HGYG.out; have h : gl = gy := h; omega)
    have hn7 := hn6.ext he7 (fun h => by have := HGYG.out; have h : gn = gy := h; omega)
    clear hE6 hf6 ha6 hp he7 hx6 hl6 hn6
    have hA8 := Ext.alloc w7 (.cells #[.bool false, .slice none 0 0] 84)
    have hf8 := IntAt.fresh w7
    have hx8 := hx7.ext hA8 (fun h => h)
    have hl8 := hl7.ext hA8 (fun h => h)
    have hn8 := hn7.ext hA8 (fun h => h)
    have hy8 := hy7.ext hA8 (fun h => h)
    have hyl := hy7.lt
    obtain ⟨gm, hgm⟩ : ∃ gm, w7.heap.size = gm := ⟨_, rfl⟩
    have HGM := Lib.hid (And.intro hgm hyl)
    rw [hgm] at hf8
    clear hgm hx7 hl7 hn7 hy7 hyl
    go_wp2_with fail
    rw [HGM.out.1]
    refine (int_mul gm g gl 0 (gk : Int) (m : Int) _ hf8 hx8 hl8 (lc_cast (Nat.le_trans HLX.out (by omega))) (lc_cast (Nat.le_trans (lc_limb (by rw [W64_eq]; omega)) (by omega)))).mono ?_
    rintro e w9 ⟨rfl, hm9, he9⟩
    have hgmy : gy < gm ∧ g < gm ∧ gl < gm ∧ gn < gm := by have := HGM.out; have := HGYG.out; omega
    have HGMY := Lib.hid hgmy
    have hx9 := hx8.ext he9 (fun h => by have := HGMY.out; have h : g = gm := h; omega)
    have hl9 := hl8.ext he9 (fun h => by have := HGMY.out; have h : gl = gm := h; omega)
    have hn9 := hn8.ext he9 (fun h => by have := HGMY.out; have h : gn = gm := h; omega)
    have hy9 := hy8.ext he9 (fun h => by have := HGMY.out; have h : gy = gm := h; omega)
    have hE9 : Ext Nix wr w9 := (hE7.later (hA8.mono (fun _ _ h => h) (fun _ h => h.elim))).hidden he9 (by rw [HGY.out]; have := HGMY.out; omega)
    rw [show ((gk : Int) * (m : Int)) = ((gk * m : Nat) : Int) by simp] at hm9
    have HLA := Lib.hid (show (limbs ((A / gk ^ m : Nat) : Int).natAbs).length ≤ 549755813888 by
      refine lc_cast (Nat.le_trans (lc_mono (Nat.div_le_self _ _)) ?_)
      have := HAL.out
      rw [Int.natAbs_natCast] at this
      unfold lc
      omega)
    clear hA8 hf8 hx8 hl8 hn8 hy8 he9 hgmy hE7
    go_wp2_with fail
    refine (int_add gy gy gm _ ((A / gk ^ m : Nat) : Int) ((gk * m : Nat) : Int) w9 hy9 hy9 hm9 HLA.out (lc_cast (Nat.le_trans HLM.out (by omega)))).mono ?_
    rintro e w10 ⟨rfl, hy10, he10⟩
    have hx10 := hx9.ext he10 (fun h => by have := HGYG.out; have h : g = gy := h; omega)
    have hl10 := hl9.ext he10 (fun h => by have := HGYG.out; have h : gl = gy := h; omega)
    have hn10 := hn9.ext he10 (fun h => by have := HGYG.out; have h : gn = gy := h; omega)
    have hE10 := hE9.hidden he10 (by rw [HGY.out]; exact Nat.le_refl _)
    rw [← Int.natCast_add] at hy10
    have HLS := Lib.hid (show lc (A / gk ^ m + gk * m) ≤ 8400 by
      have h1 := lc_add (A / gk ^ m) (gk * m)
      have h2 : lc (A / gk ^ m) ≤ 4096 := by
        refine Nat.le_trans (lc_mono (Nat.div_le_self _ _)) ?_
        have := HAL.out
        rw [Int.natAbs_natCast] at this
        exact this
      have := HLM.out
      omega)
    clear hy9 hx9 hl9 hn9 hE9 he10 hm9
    go_wp2_with fail
    refine (int_quo gy gy gn _ ((A / gk ^ m + gk * m : Nat) : Int) ((m : Int) + 1) w10 hy10 hy10 hn10 (by omega) (lc_cast (Nat.le_trans HLS.out (by omega))) (by
      rw [← Int.natCast_one, ← Int.natCast_add]
      exact lc_cast (Nat.le_trans (lc_limb (by rw [W64_eq]; omega)) (by omega)))).mono ?_
    rintro e w11 ⟨rfl, hy11, he11⟩
    have hx11 := hx10.ext he11 (fun h => by have := HGYG.out; have h : g = gy := h; omega)
    have hl11 := hl10.ext he11 (fun h => by have := HGYG.out; have h : gl = gy := h; omega)
    have hn11 := hn10.ext he11 (fun h => by have := HGYG.out; have h : gn = gy := h; omega)
    have hE11 := hE10.hidden he11 (by rw [HGY.out]; exact Nat.le_refl _)
    rw [show (((A / gk ^ m + gk * m : Nat) : Int).tdiv ((m : Int) + 1)) = ((Y : Nat) : Int) by
      rw [Int.tdiv_eq_ediv_of_nonneg (Int.natCast_nonneg _), ← HY.out]; simp] at hy11
    have HLY := Lib.hid (show lc Y ≤ 8400 by rw [← HY.out]; exact Nat.le_trans (lc_mono (Nat.div_le_self _ _)) HLS.out)
    have hEW := HE.out.later (hE11.mono (fun _ _ h => h) (fun _ h => h.elim))
    clear hy10 hx10 hl10 hn10 hE10 he11
    go_wp2_with fail
    refine (int_cmp gy g (Y : Int) (gk : Int) w11 hy11 hx11 (lc_cast (Nat.le_trans HLY.out (by omega))) (lc_cast (Nat.le_trans HLX.out (by omega)))).mono ?_
    rintro e w12 ⟨rfl, qd, rfl⟩
    rw [cmpZ_pos rfl rfl]
    by_cases hc : gk ≤ Y
    · have HIX := Lib.hid (show iroot (m + 1) A = gk by
        have h1 := newton_stop (n := m) HIR.out.1 (by rw [HY.out]; exact hc)
        have h2 := iroot_max (n := m + 1) (by omega) h1
        have := HIR.out.2.1
        omega)
      obtain ⟨r, hr, hr0⟩ : ∃ r : Int, cmpN Y gk = r ∧ 0 ≤ r := by
        rcases Nat.lt_or_eq_of_le hc with h | h
        · exact ⟨1, cmpN_gt h, by omega⟩
        · exact ⟨0, cmpN_eq h.symm, by omega⟩
      rw [hr]
      clear hc hr
      go_wp2_with fail
      go_ret
      refine ⟨g, rfl, HWG.out, ?_, (hEW.drewN qd).below⟩
      rw [HIX.out]
      exact hx11.drewN qd
    · have hcl : Y < gk := by omega
      have HGE := Lib.hid (newton_ge (n := m) HIR.out.2.1 HIR.out.1 (iroot_pow (by omega) A))
      have HLT := Lib.hid hcl
      rw [cmpN_lt hcl]
      clear hc hcl
      go_wp2_with fail
      go_roundg Y
      case measure => exact HLT.out
      case rel =>
        have h1 := HGE.out
        rw [HY.out] at h1
        have h2 := iroot_pos (n := m + 1) (a := A) (by omega) (by
          rcases Nat.eq_zero_or_pos A with h | h
          · subst h; have := HN.out; rw [nbits_zero] at this; omega
          · exact h)
        have := HLT.out
        have := HIR.out.2.2
        exact ⟨gy, rfl, HGYG.out.2.1, hy11.drewN qd, by omega, h1, by omega, hl11.drewN qd, hn11.drewN qd, hEW.drewN qd⟩
end Go.Proofs.Ytmnfokapdipcdaa
