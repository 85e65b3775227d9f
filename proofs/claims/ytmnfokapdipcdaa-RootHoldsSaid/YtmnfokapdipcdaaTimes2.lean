import Derived.Test.YtmnfokapdipcdaaStay
import Derived.Test.YtmnfokapdipcdaaTimes
import Derived.Test.YtmnfokapdipcdaaInt5
import Derived.Test.YtmnfokapdipcdaaRootQ
/- The package times: bitlen, Square, Power (of numbers that stay short). -/
namespace Go.Proofs.Ytmnfokapdipcdaa
open Go.RowKit Go.Deep
set_option maxHeartbeats 1000000 in
set_option maxRecDepth 100000 in
theorem times_bitlen (v : Value) (x : Int) (w : World) (h : IntV w v x) (hl : lc x.natAbs ≤ 4096) (h0 : x ≠ 0) :
    Calls Try.prog 102 #[v] w fun e w' => e = .returned (.int .i64 (nbits x.natAbs : Nat)) ∧ Below w.heap.size w w' := by
  obtain ⟨A, l, c, rfl, el, hc, hlim⟩ := h
  obtain ⟨ys, t, hyt, ht0⟩ := snoc_of_norm (norm_limbs x.natAbs) (fun e => by have := limbs_eq_nil.1 e; omega)
  have hsm := small_limbs x.natAbs
  rw [hyt] at hsm
  have hys : Small ys := fun z hz => hsm z (by simp [hz])
  have htW : t < W64 := hsm t (by simp)
  have hnb := nbits_top hys ht0 htW
  rw [← hyt, val_limbs] at hnb
  have hlen : (limbs x.natAbs).length = ys.length + 1 := by rw [hyt]; simp
  obtain ⟨ad, rfl, hb, hcell⟩ := hlim.at_ (k := ys.length) (by omega)
  have e : (limbs x.natAbs).getD ys.length 0 = t := by rw [hyt]; simp
  rw [e] at hcell
  obtain ⟨m, hm⟩ : ∃ m, ys.length = m := ⟨_, rfl⟩
  rw [hm] at hcell hlen hnb
  rw [hlen] at el
  subst el
  have hbl := bitLen_le64 htW
  have HN := Lib.hid hnb
  have hmI : (m : Int) ≤ 4096 := by unfold lc at hl; omega
  obtain ⟨s, hs⟩ : ∃ s, decide (x < 0) = s := ⟨_, rfl⟩
  rw [hs]
  have HB := Lib.hid hb
  clear hnb e hlen hm hyt hys hsm hs hl hlim
  go_enter Try.func102, Try.ntmps102
  go_upto_region 1 with (fail)
  obtain ⟨W0, g, hW, hg, bx, hgg, hszw, hbw⟩ := boxH w (.bool s) (.slice (some ad) (m + 1) c)
  rw [hW, hg]
  have hcell := (hbw.cell (p := ad.add m) (by rw [block_of_add]; exact HB.out)).trans hcell
  have a0 := bx.out.cell0
  have a1 := bx.out.cell1
  have HBW := Lib.hid hbw
  clear hW hg hbw
  go_wp2_with fail
  go_quiet ((go_at_call 142; exact quiet_left (bits_lz64 t htW _)))
  go_wp2_with fail
  go_ret
  exact ⟨by rw [HN.out, show ((64 * m + bitLen t : Nat) : Int) = 64 * ((m : Int) + 1) - ((64 - bitLen t : Nat) : Int) by omega]; rfl, below_drewN HBW.out _⟩
set_option maxHeartbeats 1000000 in
set_option maxRecDepth 100000 in
theorem times_Square (v : Value) (x : Int) (w : World) (hx : IntV w v x) (lx : lc x.natAbs ≤ 4096) (hs : lc x.natAbs < 24) :
    Calls Try.prog 49 #[v] w fun e w' => ∃ v', e = .returned (.tuple #[v', .int .i64 (longE (x * x))]) ∧ RawAt w' w.heap.size v' (longR (x * x)) ∧ Below w.heap.size w w' := by
  obtain ⟨s, A, l, c, rfl, HV⟩ := hx.open
  have HL := Lib.hid (And.intro lx hs)
  clear hx lx hs
  go_enter Try.func49, Try.ntmps49
  go_wp2_with fail
  obtain ⟨W1, g, r, hW, hg, hr, bx, br, G_g, S_W1, hb⟩ := boxH2 w (.bool s) (.slice A l c) (.bool false) (.slice none 0 0)
  rw [hW, hr, hg]
  replace HV := Lib.hid (HV.out.stay hb)
  have B_W1 := Lib.hid (show Since w W1 from hb)
  clear hW hg hr hb
  have HGR := Lib.hid (show w.heap.size ≤ r ∧ w.heap.size ≤ W1.heap.size by have := G_g.out; have := S_W1.out; omega)
  refine (times_Mul _ _ x x W1 HV.out HV.out HL.out.1 HL.out.1 (by have := HL.out.2; omega)).mono ?_
  rintro e w2 ⟨u, rfl, hu, hb⟩
  obtain ⟨b2, A2, l2, c2, rfl, HU⟩ := hu.open
  obtain ⟨E, hE⟩ : ∃ E : Int, longE (x * x) = E := ⟨_, rfl⟩
  have HE := Lib.hid hE
  rw [hE]
  replace B_W1 := Lib.hid (B_W1.out.stay hb)
  replace br := Lib.hid (br.out.stay hb)
  clear hb hu hE HV
  have c0 := br.out.cell0
  have c1 := br.out.cell1
  have f0 := br.out.free 0
  have f1 := br.out.free 1
  go_wp2_with fail
  refine bodyPost_ret (v := .tuple #[.agg #[.bool b2, (.slice A2 l2 c2)], (.int .i64 E)]) (by
    rw [results_cell_tmp rfl]
    have hld := run_loadVar_row (P := Try.prog) _ r 36 36 #[.bool b2, (.slice A2 l2 c2)] (0, 0) _ br.out.store Try.underlying36 rfl (by kernel_rfl)
    simp [asAddr, Result.andThen, hld]) rfl ?_
  rw [HE.out]
  exact ⟨_, rfl, (HU.out.store2 br.out.nums _ _).since HGR.out.2, store2_below B_W1.out HGR.out.1⟩
/-- Another sign. -/
theorem RawAt.sign {w : World} {base : Nat} {b b1 : Bool} {s : Value} {xs : List Nat} (h : RawAt w base (.agg #[.bool b, s]) (b1, xs)) (b' : Bool) : RawAt w base (.agg #[.bool b', s]) (b', xs) := by
  obtain ⟨A, l, c, hv, hl, hc, hlim, hf⟩ := h
  injection hv with hv
  have h1 := congrArg (fun a => a[1]?) hv
  simp at h1
  subst h1
  exact ⟨A, l, c, rfl, hl, hc, hlim, hf⟩
theorem minus_one_pow (n : Nat) : (-1 : Int) ^ n = if n % 2 = 1 then -1 else 1 := by
  split
  · rename_i h; rw [neg_pow_odd 1 h, Int.one_pow]
  · rename_i h
    obtain ⟨k, rfl⟩ : ∃ k, n = 2 * k := ⟨n / 2, by omega⟩
    rw [Int.pow_mul, show (-1 : Int) ^ 2 = 1 by decide, Int.one_pow]
theorem unit_pow {x : Int} (h : x.natAbs = 1) (n : Nat) : rawOf (x ^ n) = (decide (x < 0) && decide (n % 2 = 1), limbs 1) := by
  have h1 : x = 1 ∨ x = -1 := by omega
  rcases h1 with rfl | rfl
  · rw [Int.one_pow]; rfl
  · rw [minus_one_pow]
    by_cases h2 : n % 2 = 1
    · rw [if_pos h2, decide_eq_true h2]; rfl
    · rw [if_neg h2, decide_eq_false h2]; rfl
/-- What the loop of a power needs to know. -/
theorem power_len {x : Int} {n : Nat} (hx : 2 ≤ x.natAbs) (hp : lc (x ^ n).natAbs ≤ 24) : n ≤ 1536 ∧ (nbits x.natAbs - 1) * n ≤ 262144 := by
  rw [Int.natAbs_pow, lc_le, W64_pow] at hp
  constructor
  · have h1 := Nat.lt_of_le_of_lt (Nat.pow_le_pow_left hx n) hp
    have := (Nat.pow_lt_pow_iff_right (show 1 < 2 by omega)).1 h1
    omega
  · have h1 := pow_le_of_nbits (show x.natAbs ≠ 0 by omega)
    have h2 := Nat.pow_le_pow_left h1 n
    rw [← Nat.pow_mul] at h2
    have := (Nat.pow_lt_pow_iff_right (show 1 < 2 by omega)).1 (Nat.lt_of_le_of_lt h2 hp)
    omega
set_option maxHeartbeats 2000000 in
set_option maxRecDepth 100000 in
theorem power_small (v : Value) (x : Int) (n : Nat) (w : World) (h : IntV w v x) (hl : lc x.natAbs ≤ 24) (hp : lc (x ^ n).natAbs ≤ 24) (hn : (n : Int) < 9223372036854775808) (hx : n = 0 ∨ x.natAbs < 2) :
    Calls Try.prog 48 #[v, .int .i64 (n : Int)] w fun e w' => ∃ u, e = .returned (.tuple #[u, .int .i64 0]) ∧ RawAt w' w.heap.size u (rawOf (x ^ n)) ∧ Below w.heap.size w w' := by
  obtain ⟨m, hm⟩ : ∃ m : Int, (n : Int) = m := ⟨_, rfl⟩
  have hm0 : 0 ≤ m := by omega
  have HM := Lib.hid hm
  rw [hm]
  have hmm : ¬ m < 0 := by omega
  have hmL : m < 9223372036854775808 := by omega
  clear hn hm
  obtain ⟨s, A, l, c, rfl, HV⟩ := h.open
  have HP := Lib.hid HV.out.parts
  have HL := Lib.hid (And.intro hl hp)
  clear h hl hp
  go_enter Try.func48, Try.ntmps48
  go_wp2_with fail
  obtain ⟨W1, g, r, hW, hg, hr, bx, br, G_g, S_W1, hb⟩ := boxH2 w (.bool s) (.slice A l c) (.bool false) (.slice none 0 0)
  rw [hW, hr, hg]
  replace HV := Lib.hid (HV.out.stay hb)
  have B_W1 := Lib.hid (show Since w W1 from hb)
  clear hW hg hr hb
  have HGR := Lib.hid (show w.heap.size ≤ r by have := G_g.out; omega)
  refine (right_int _ x W1 HV.out (by have := HL.out.1; omega)).mono ?_
  rintro e w2 ⟨rfl, hb⟩
  replace HV := Lib.hid (HV.out.stay hb)
  replace B_W1 := Lib.hid (B_W1.out.stay hb)
  replace bx := Lib.hid (bx.out.stay hb)
  replace br := Lib.hid (br.out.stay hb)
  clear hb
  go_wp2_with fail
  refine (limb_Of 1 w2 (by omega) (by omega)).mono ?_
  rintro e w3 ⟨u, rfl, hu, hb⟩
  obtain ⟨b0, A0, l0, c0, rfl, HU0⟩ := hu.open
  have HSZ := Lib.hid (show w.heap.size ≤ w2.heap.size from B_W1.out.size)
  replace HV := Lib.hid (HV.out.stay hb)
  replace B_W1 := Lib.hid (B_W1.out.stay hb)
  replace bx := Lib.hid (bx.out.stay hb)
  replace br := Lib.hid (br.out.stay hb)
  clear hb hu
  go_upto_region 4 with (fail)
  obtain ⟨W4, go, hW, hg, bo, G_go, S_W4, hb⟩ := boxH w3 (.bool b0) (.slice A0 l0 c0)
  rw [hW, hg]
  have L_bx_go := Lib.hid (Nat.lt_of_lt_of_eq bx.out.lt hg)
  have L_br_go := Lib.hid (Nat.lt_of_lt_of_eq br.out.lt hg)
  replace HV := Lib.hid (HV.out.stay hb)
  replace B_W1 := Lib.hid (B_W1.out.stay hb)
  replace HU0 := Lib.hid (HU0.out.stay hb)
  replace bx := Lib.hid (bx.out.stay hb)
  replace br := Lib.hid (br.out.stay hb)
  have B_W4 := Lib.hid (show Since w3 W4 from hb)
  clear hW hg hb
  have o0 := bo.out.cell0
  have o1 := bo.out.cell1
  have i0 := bx.out.cell0
  have i1 := bx.out.cell1
  have fo := bo.out.free 0
  have f0 := br.out.free 0
  have f1 := br.out.free 1
  have c0' := br.out.cell0
  have c1' := br.out.cell1
  by_cases h0 : n = 0
  · obtain rfl : m = 0 := by have := HM.out; omega
    have HR := Lib.hid (show rawOf (x ^ n) = rawOf 1 by rw [h0, Int.pow_zero])
    clear hx h0
    go_wp2_with fail
    refine bodyPost_ret (v := .tuple #[.agg #[.bool b0, (.slice A0 l0 c0)], (.int .i64 0)]) (by
      rw [results_cell_tmp rfl]
      have hld := run_loadVar_row (P := Try.prog) _ r 36 36 #[.bool b0, (.slice A0 l0 c0)] (0, 0) _ br.out.store Try.underlying36 rfl (by kernel_rfl)
      simp [asAddr, Result.andThen, hld]) rfl ?_
    rw [HR.out]
    exact ⟨_, rfl, (HU0.out.store2 br.out.nums _ _).since HSZ.out, store2_below B_W1.out HGR.out⟩
  · have t0 : (m == 0) = false := beq_eq_false_iff_ne.2 (by have := HM.out; omega)
    have hx : x.natAbs < 2 := by omega
    by_cases hx0 : x = 0
    · have HR := Lib.hid (show rawOf (x ^ n) = (false, []) by rw [hx0, Int.zero_pow h0]; unfold rawOf; simp [limbs_zero])
      obtain rfl : l = 0 := by rw [HP.out.2.1, hx0]; simp [limbs_zero]
      clear hx h0 hx0
      go_wp2_with fail
      refine bodyPost_ret (v := .tuple #[.agg #[.bool false, (.slice none 0 0)], (.int .i64 0)]) (by
        rw [results_cell_tmp rfl]
        have hld := run_loadVar_row (P := Try.prog) _ r 36 36 #[.bool false, (.slice none 0 0)] (0, 0) _ br.out.store Try.underlying36 rfl (by kernel_rfl)
        simp [asAddr, Result.andThen, hld]) rfl ?_
      rw [HR.out]
      exact ⟨_, rfl, RawAt.zero _ _, store2_below B_W1.out HGR.out⟩
    · have hx1 : x.natAbs = 1 := by omega
      have HR := Lib.hid (unit_pow hx1 n)
      have hl1 : limbs x.natAbs = [1] := by rw [hx1]; exact limbs_of_small (by rw [W64_eq]; omega) (by omega)
      have hpp := HP.out
      rw [hl1] at hpp
      obtain rfl : l = 1 := hpp.2.1
      obtain ⟨ad, rfl, -, hcell⟩ := HV.out.parts.2.2.2.at_ (k := 0) (by rw [hl1]; simp)
      rw [hl1] at hcell
      have hcell : W4.cell? ad = some (.int .u64 1) := hcell
      have hne : ¬ go = r := Nat.ne_of_gt L_br_go.out
      have hne2 : ¬ r = go := Nat.ne_of_lt L_br_go.out
      have L_w_go := Lib.hid (show w.heap.size ≤ go from Nat.le_trans HGR.out (Nat.le_of_lt L_br_go.out))
      have HS := Lib.hid (show s = decide (x < 0) from hpp.1)
      have hbit : bits BinOp.and IntKind.i64 m 1 = ((n % 2 : Nat) : Int) := by rw [← HM.out]; exact and_one_i64 n (by have := HM.out; omega)
      have HR2 := Lib.hid (fun b' => HU0.out.sign (b1 := decide ((1 : Int) < 0)) b')
      clear hx h0 hx0 hx1 hl1 hpp
      cases s
      · go_wp2_with fail
        obtain ⟨W5, hW5, bo5, p5⟩ := bo.out.write0 (.bool false)
        rw [hW5]
        have br5 := br.out.put p5 hne2
        refine bodyPost_ret (v := .tuple #[.agg #[.bool false, (.slice A0 l0 c0)], (.int .i64 0)]) (by
          rw [results_cell_tmp rfl]
          have hld := run_loadVar_row (P := Try.prog) _ r 36 36 #[.bool false, (.slice A0 l0 c0)] (0, 0) _ br5.store Try.underlying36 rfl (by kernel_rfl)
          simp [asAddr, Result.andThen, hld]) rfl ?_
        rw [HR.out]
        refine ⟨_, rfl, ?_, store2_below (B_W1.out.put p5 L_w_go.out) HGR.out⟩
        have hfin := (((HR2.out false).put p5).store2 br5.nums (.bool false) (.slice A0 l0 c0)).since HSZ.out
        rw [show (decide (x < 0) && decide (n % 2 = 1)) = false from (by rw [← HS.out]; rfl)]
        exact hfin
      · rcases Nat.mod_two_eq_zero_or_one n with h2 | h2
        · rw [h2] at hbit
          have H2 := Lib.hid h2
          clear h2
          go_wp2_with fail
          obtain ⟨W5, hW5, bo5, p5⟩ := bo.out.write0 (.bool false)
          rw [hW5]
          have br5 := br.out.put p5 hne2
          refine bodyPost_ret (v := .tuple #[.agg #[.bool false, (.slice A0 l0 c0)], (.int .i64 0)]) (by
            rw [results_cell_tmp rfl]
            have hld := run_loadVar_row (P := Try.prog) _ r 36 36 #[.bool false, (.slice A0 l0 c0)] (0, 0) _ br5.store Try.underlying36 rfl (by kernel_rfl)
            simp [asAddr, Result.andThen, hld]) rfl ?_
          rw [HR.out]
          refine ⟨_, rfl, ?_, store2_below (B_W1.out.put p5 L_w_go.out) HGR.out⟩
          have hfin := (((HR2.out false).put p5).store2 br5.nums (.bool false) (.slice A0 l0 c0)).since HSZ.out
          rw [show (decide (x < 0) && decide (n % 2 = 1)) = false from (by rw [← HS.out, H2.out]; rfl)]
          exact hfin
        · rw [h2] at hbit
          have H2 := Lib.hid h2
          clear h2
          go_wp2_with fail
          obtain ⟨W5, hW5, bo5, p5⟩ := bo.out.write0 (.bool true)
          rw [hW5]
          have br5 := br.out.put p5 hne2
          refine bodyPost_ret (v := .tuple #[.agg #[.bool true, (.slice A0 l0 c0)], (.int .i64 0)]) (by
            rw [results_cell_tmp rfl]
            have hld := run_loadVar_row (P := Try.prog) _ r 36 36 #[.bool true, (.slice A0 l0 c0)] (0, 0) _ br5.store Try.underlying36 rfl (by kernel_rfl)
            simp [asAddr, Result.andThen, hld]) rfl ?_
          rw [HR.out]
          refine ⟨_, rfl, ?_, store2_below (B_W1.out.put p5 L_w_go.out) HGR.out⟩
          have hfin := (((HR2.out true).put p5).store2 br5.nums (.bool true) (.slice A0 l0 c0)).since HSZ.out
          rw [show (decide (x < 0) && decide (n % 2 = 1)) = true from (by rw [← HS.out, H2.out]; rfl)]
          exact hfin
theorem power_step {x : Int} {n i : Nat} (hx : x ≠ 0) (hp : lc (x ^ n).natAbs ≤ 24) : lc (x ^ (n / 2 ^ (i + 1))).natAbs ≤ 12 ∧ lc (x ^ (n / 2 ^ (i + 1)) * x ^ (n / 2 ^ (i + 1))).natAbs ≤ 24 ∧ lc (x ^ (n / 2 ^ i)).natAbs ≤ 24 := by
  have hpos : ∀ j, 0 < (x ^ j).natAbs := fun j => by rw [Int.natAbs_pow]; exact Nat.pow_pos (by omega)
  have h2 : lc (x ^ (n / 2 ^ (i + 1)) * x ^ (n / 2 ^ (i + 1))).natAbs ≤ 24 := by
    rw [← Int.pow_add]
    refine pow_len hp ?_ (by omega)
    have h3 := Nat.div_mul_le_self n (2 ^ (i + 1))
    have h4 : 2 ≤ 2 ^ (i + 1) := by rw [Nat.pow_succ]; have := Nat.pow_pos (n := i) (show 0 < 2 by omega); omega
    have h5 := Nat.mul_le_mul_left (n / 2 ^ (i + 1)) h4
    omega
  have h3 := lc_mul_ge (hpos (n / 2 ^ (i + 1))) (hpos (n / 2 ^ (i + 1)))
  rw [← Int.natAbs_mul] at h3
  exact ⟨by omega, h2, pow_len hp (Nat.div_le_self _ _) (by omega)⟩
theorem shift_bit (n i : Nat) (h : n ≤ 1536) : bits BinOp.and IntKind.i64 ((n : Int) / 2 ^ i) 1 = ((bitAt n i : Nat) : Int) := by
  have h1 := and_one_i64 (n / 2 ^ i) (by have := Nat.div_le_self n (2 ^ i); omega)
  have h2 : ((n / 2 ^ i : Nat) : Int) = (n : Int) / 2 ^ i := by rw [Int.natCast_ediv, Int.natCast_pow]; rfl
  rw [h2] at h1
  exact h1
theorem bit_two (n i : Nat) : bitAt n i = 0 ∨ bitAt n i = 1 := by unfold bitAt; omega
set_option maxHeartbeats 2000000 in
set_option maxRecDepth 100000 in
theorem power_great (v : Value) (x : Int) (n : Nat) (w : World) (h : IntV w v x) (hl : lc x.natAbs ≤ 24) (hp : lc (x ^ n).natAbs ≤ 24) (hn1 : 1 ≤ n) (hx : 2 ≤ x.natAbs) :
    Calls Try.prog 48 #[v, .int .i64 (n : Int)] w fun e w' => ∃ u, e = .returned (.tuple #[u, .int .i64 0]) ∧ RawAt w' w.heap.size u (rawOf (x ^ n)) ∧ Below w.heap.size w w' := by
  obtain ⟨hn2, hnb⟩ := power_len hx hp
  obtain ⟨k, hk⟩ : ∃ k, nbits x.natAbs = k + 1 := ⟨nbits x.natAbs - 1, by have := nbits_pos (show x.natAbs ≠ 0 by omega); omega⟩
  have HK := Lib.hid hk
  have hk1 : 1 ≤ k := by
    rcases Nat.eq_zero_or_pos k with h0 | h0
    · have h1 := nbits_le.1 (show nbits x.natAbs ≤ 1 by omega); omega
    · exact h0
  rw [hk, Nat.add_sub_cancel] at hnb
  have HN := Lib.hid (And.intro hn1 (And.intro hn2 hnb))
  have HX := Lib.hid hx
  have HX0 := Lib.hid (show x ≠ 0 by omega)
  have HNW := Lib.hid (show n < W64 by rw [W64_eq]; omega)
  have HKI := Lib.hid (show (k : Int) ≤ 1536 by
    have h1 := nbits_le_lc x.natAbs
    omega)
  have HTT := Lib.hid (show (n : Int) ≤ 262144 / (k : Int) by
    have h1 : n ≤ 262144 / k := (Nat.le_div_iff_mul_le (by omega)).2 (by rw [Nat.mul_comm]; exact hnb)
    have h2 : ((262144 / k : Nat) : Int) = 262144 / (k : Int) := by rw [Int.natCast_ediv]; rfl
    omega)
  have hmm : ¬ (n : Int) < 0 := by omega
  have t0 : ((n : Int) == 0) = false := beq_eq_false_iff_ne.2 (by omega)
  clear hn1 hn2 hx hk hnb
  obtain ⟨s, A, l, c, rfl, HV⟩ := h.open
  have HP := Lib.hid HV.out.parts
  have HL := Lib.hid (And.intro hl hp)
  clear h hl hp
  go_enter Try.func48, Try.ntmps48
  go_wp2_with fail
  obtain ⟨W1, g, r, hW, hg, hr, bx, br, G_g, S_W1, hb⟩ := boxH2 w (.bool s) (.slice A l c) (.bool false) (.slice none 0 0)
  rw [hW, hr, hg]
  replace HV := Lib.hid (HV.out.stay hb)
  have B_W1 := Lib.hid (show Since w W1 from hb)
  clear hW hg hr hb
  have HGR := Lib.hid (show w.heap.size ≤ r by have := G_g.out; omega)
  refine (right_int _ x W1 HV.out (by have := HL.out.1; omega)).mono ?_
  rintro e w2 ⟨rfl, hb⟩
  replace HV := Lib.hid (HV.out.stay hb)
  replace B_W1 := Lib.hid (B_W1.out.stay hb)
  replace bx := Lib.hid (bx.out.stay hb)
  replace br := Lib.hid (br.out.stay hb)
  clear hb
  go_wp2_with fail
  refine (limb_Of 1 w2 (by omega) (by omega)).mono ?_
  rintro e w3 ⟨u, rfl, hu, hb⟩
  obtain ⟨b0, A0, l0, c0, rfl, HU0⟩ := hu.open
  have HSZ := Lib.hid (show w.heap.size ≤ w2.heap.size from B_W1.out.size)
  replace HV := Lib.hid (HV.out.stay hb)
  replace B_W1 := Lib.hid (B_W1.out.stay hb)
  replace bx := Lib.hid (bx.out.stay hb)
  replace br := Lib.hid (br.out.stay hb)
  clear hb hu
  go_upto_region 4 with (fail)
  obtain ⟨W4, go, hW, hg, bo, G_go, S_W4, hb⟩ := boxH w3 (.bool b0) (.slice A0 l0 c0)
  rw [hW, hg]
  have L_bx_go := Lib.hid (Nat.lt_of_lt_of_eq bx.out.lt hg)
  have L_br_go := Lib.hid (Nat.lt_of_lt_of_eq br.out.lt hg)
  replace HV := Lib.hid (HV.out.stay hb)
  replace B_W1 := Lib.hid (B_W1.out.stay hb)
  replace HU0 := Lib.hid (HU0.out.stay hb)
  replace bx := Lib.hid (bx.out.stay hb)
  replace br := Lib.hid (br.out.stay hb)
  have B_W4 := Lib.hid (show Since w3 W4 from hb)
  clear hW hg hb
  have i0 := bx.out.cell0
  have i1 := bx.out.cell1
  have L_w_go := Lib.hid (show w.heap.size ≤ go from Nat.le_trans HGR.out (Nat.le_of_lt L_br_go.out))
  have tl : ((l : Int) == 0) = false := beq_eq_false_iff_ne.2 (by
    have h1 := HP.out.2.1
    intro h2
    have h3 := limbs_eq_nil.1 (List.eq_nil_of_length_eq_zero (show (limbs x.natAbs).length = 0 by omega))
    have := HX.out
    omega)
  by_cases h1 : l = 1
  · subst h1
    obtain ⟨d, hd⟩ : ∃ d, limbs x.natAbs = [d] := by
      have h1 := HP.out.2.1
      rcases hll : limbs x.natAbs with _ | ⟨d, _ | ⟨e, q⟩⟩
      · rw [hll] at h1; cases h1
      · exact ⟨d, rfl⟩
      · rw [hll] at h1; simp at h1
    have hdx : x.natAbs = d := by have := val_limbs x.natAbs; rw [hd] at this; simpa using this.symm
    obtain ⟨ad, rfl, -, hcell⟩ := HV.out.parts.2.2.2.at_ (k := 0) (by rw [hd]; simp)
    rw [hd] at hcell
    have hcell2 : W4.cell? ad = some (.int .u64 (d : Int)) := hcell
    have td : ((d : Int) == 1) = false := beq_eq_false_iff_ne.2 (by have := HX.out; omega)
    clear hd hdx hcell
    go_wp2_with fail
    refine (times_bitlen _ x W4 HV.out (by have := HL.out.1; omega) HX0.out).mono ?_
    rintro e w5 ⟨rfl, hb⟩
    rw [HK.out]
    replace HV := Lib.hid (HV.out.stay hb)
    replace B_W1 := Lib.hid (B_W1.out.stay hb)
    replace HU0 := Lib.hid (HU0.out.stay hb)
    replace bx := Lib.hid (bx.out.stay hb)
    replace br := Lib.hid (br.out.stay hb)
    replace bo := Lib.hid (bo.out.stay hb)
    clear hb
    have h1k : max ((k : Int)) 1 = (k : Int) := by omega
    have hkk : ((k + 1 : Nat) : Int) - 1 = (k : Int) := by omega
    have hkI : (k : Int) ≤ 1536 := HKI.out
    have htest : (n : Int) ≤ 262144 / (k : Int) := HTT.out
    rw [show ((k + 1 : Nat) : Int) = (k : Int) + 1 by omega]
    have fo := bo.out.free
    have fr := br.out.free
    have o0 := bo.out.cell0
    have o1 := bo.out.cell1
    have q0 := br.out.cell0
    have q1 := br.out.cell1
    have i0 := bx.out.cell0
    have i1 := bx.out.cell1
    go_wp2_with fail
    rw [wrap_plus (show n < 9223372036854775808 by have := HN.out.2.1; omega)]
    refine (bits_len n HNW.out _).mono ?_
    rintro e w6 ⟨rfl, rfl⟩
    obtain ⟨B, hB⟩ : ∃ B, bitLen n = B := ⟨_, rfl⟩
    have hB64 : B ≤ 64 := by rw [← hB]; exact bitLen_le64 HNW.out
    have HBS := Lib.hid (show n / 2 ^ B = 0 by rw [← hB]; exact Nat.div_eq_of_lt (bitLen_spec n (by rw [← W64_two]; exact HNW.out)).1)
    rw [hB]
    clear hB o0 o1 q0 q1 i0 i1 fo fr hkI htest h1k hkk
    go_wp2_with fail
    go_loopw [7] (fun t7 wr => ∃ (i : Nat) (b : Bool) (Ao : Option Addr) (lo co : Nat), i ≤ B ∧ t7 = .int .i64 ((i : Int) - 1) ∧ Hid (Since w wr) ∧ Hid (Box2 wr g (.bool s) (.slice (some ad) 1 c)) ∧ Hid (Box2 wr r (.bool false) (.slice none 0 0)) ∧ Hid (Box2 wr go (.bool b) (.slice Ao lo co)) ∧ Hid (RawAt wr w.heap.size (.agg #[.bool b, .slice Ao lo co]) (rawOf (x ^ (n / 2 ^ i)))) ∧ Hid (IntV wr (.agg #[.bool s, .slice (some ad) 1 c]) x)) (fun t7 _ => (intOf t7 + 1).toNat)
    case atStart => exact ⟨B, b0, A0, l0, c0, Nat.le_refl _, rfl, B_W1, bx, br, bo, Lib.hid (by rw [HBS.out, Int.pow_zero]; exact HU0.out.since HSZ.out), HV⟩
    case round =>
      clear B_W1 bx br bo HU0 HV
      obtain ⟨i, b, Ao, lo, co, hi, rfl, B_W1, bx, br, bo, HU, HV⟩ := hrel
      have o0 := bo.out.cell0
      have o1 := bo.out.cell1
      have q0 := br.out.cell0
      have q1 := br.out.cell1
      have fo := bo.out.free
      have fr := br.out.free
      rcases i with _ | i
      · rw [Nat.pow_zero, Nat.div_one] at HU
        go_wp2_with fail
        refine bodyPost_ret (v := .tuple #[.agg #[.bool b, (.slice Ao lo co)], (.int .i64 0)]) (by
          rw [results_cell_tmp rfl]
          have hld := run_loadVar_row (P := Try.prog) _ r 36 36 #[.bool b, (.slice Ao lo co)] (0, 0) _ br.out.store Try.underlying36 rfl (by kernel_rfl)
          simp [asAddr, Result.andThen, hld]) rfl ?_
        exact ⟨_, rfl, HU.out.store2 br.out.nums _ _, store2_below B_W1.out HGR.out⟩
      · have e1 : ((i + 1 : Nat) : Int) - 1 = (i : Int) := by omega
        rw [e1]
        have hi64 : i ≤ 64 := by omega
        have hb0 : (0 : Int) ≤ (i : Int) := by omega
        have HST := Lib.hid (exp_step x n i)
        have HLL := Lib.hid (power_step (i := i) HX0.out HL.out.2)
        obtain ⟨u, hu⟩ : ∃ u, x ^ (n / 2 ^ (i + 1)) = u := ⟨_, rfl⟩
        obtain ⟨v, hv⟩ : ∃ v, x ^ (n / 2 ^ i) = v := ⟨_, rfl⟩
        rw [hu] at HU HST HLL
        rw [hv] at HST HLL
        have HVV := Lib.hid hv
        have hne : ¬ go = r := Nat.ne_of_gt L_br_go.out
        clear hu hv
        go_wp2_with fail
        refine (times_Square _ u wr HU.out.int (by have := HLL.out.1; omega) (by have := HLL.out.1; omega)).mono ?_
        rintro e w7 ⟨u7, rfl, hu7, hb⟩
        rw [longR_ok (by have := HLL.out.2.1; omega)] at hu7
        rw [longE_ok (by have := HLL.out.2.1; omega)]
        replace hu7 := hu7.since B_W1.out.size
        obtain ⟨b7, A7, l7, c7, rfl, HU7⟩ := hu7.open
        clear hu7 o0 o1 q0 q1 fo fr HU
        replace HV := Lib.hid (HV.out.stay hb)
        replace B_W1 := Lib.hid (B_W1.out.stay hb)
        replace bx := Lib.hid (bx.out.stay hb)
        replace br := Lib.hid (br.out.stay hb)
        replace bo := Lib.hid (bo.out.stay hb)
        clear hb
        have o0 := bo.out.cell0
        have o1 := bo.out.cell1
        have fo := bo.out.free
        go_upto_region 20 with (fail)
        obtain ⟨W8, hW8, bo8, p8⟩ := bo.out.write (.bool b7) (.slice A7 l7 c7)
        rw [hW8]
        replace B_W1 := Lib.hid (B_W1.out.put p8 L_w_go.out)
        replace bx := Lib.hid (bx.out.put p8 (Nat.ne_of_lt L_bx_go.out))
        replace br := Lib.hid (br.out.put p8 (Nat.ne_of_lt L_br_go.out))
        replace HV := Lib.hid (HV.out.put p8)
        replace HU7 := Lib.hid (HU7.out.put p8)
        clear bo o0 o1 fo hW8 p8
        have o0 := bo8.out.cell0
        have o1 := bo8.out.cell1
        have q0 := br.out.cell0
        have q1 := br.out.cell1
        have i0 := bx.out.cell0
        have i1 := bx.out.cell1
        have fo := bo8.out.free
        have fr := br.out.free
        have hbit := shift_bit n i (by have := HN.out.2.1; omega)
        rcases bit_two n i with h2 | h2
        · rw [h2] at hbit
          have HE := Lib.hid (show v = u * u by rw [HST.out, h2, if_neg (by omega), Int.mul_one])
          clear h2
          go_wp2_with fail
          exact ⟨⟨i, b7, A7, l7, c7, by omega, by go_num, B_W1, bx, br, bo8, by rw [HVV.out, HE.out]; exact HU7, HV⟩, by simp [intOf]⟩
        · rw [h2] at hbit
          have HE := Lib.hid (show v = u * u * x by rw [HST.out, h2, if_pos rfl])
          clear h2
          go_wp2_with fail
          refine (times_Mul _ _ (u * u) x W8 HU7.out.int HV.out (by have := HLL.out.2.1; omega) (by have := HL.out.1; omega) (by
            rcases Nat.eq_zero_or_pos (u * u).natAbs with h3 | h3
            · rw [h3, lc_zero]; omega
            · have h4 := lc_mul_ge h3 (show 0 < x.natAbs by have := HX.out; omega)
              rw [← Int.natAbs_mul, ← HE.out] at h4
              have := HLL.out.2.2
              omega)).mono ?_
          rintro e w9 ⟨u9, rfl, hu9, hb⟩
          rw [← HE.out] at hu9
          rw [← HE.out]
          rw [longR_ok (by have := HLL.out.2.2; omega)] at hu9
          rw [longE_ok (by have := HLL.out.2.2; omega)]
          replace hu9 := hu9.since B_W1.out.size
          obtain ⟨b9, A9, l9, c9, rfl, HU9⟩ := hu9.open
          clear hu9 o0 o1 q0 q1 i0 i1 fo fr HU7 hbit
          replace HV := Lib.hid (HV.out.stay hb)
          replace B_W1 := Lib.hid (B_W1.out.stay hb)
          replace bx := Lib.hid (bx.out.stay hb)
          replace br := Lib.hid (br.out.stay hb)
          replace bo8 := Lib.hid (bo8.out.stay hb)
          clear hb
          have o0 := bo8.out.cell0
          have o1 := bo8.out.cell1
          have fo := bo8.out.free
          obtain ⟨W10, hW10, bo, p10⟩ := bo8.out.write (.bool b9) (.slice A9 l9 c9)
          replace B_W1 := Lib.hid (B_W1.out.put p10 L_w_go.out)
          replace bx := Lib.hid (bx.out.put p10 (Nat.ne_of_lt L_bx_go.out))
          replace br := Lib.hid (br.out.put p10 (Nat.ne_of_lt L_br_go.out))
          replace HV := Lib.hid (HV.out.put p10)
          replace HU9 := Lib.hid (HU9.out.put p10)
          go_wp2_with fail
          exact ⟨⟨i, b9, A9, l9, c9, by omega, by go_num, B_W1, bx, br, bo, by rw [HVV.out]; exact HU9, HV⟩, by simp [intOf]⟩
  · have tl1 : ((l : Int) == 1) = false := beq_eq_false_iff_ne.2 (by omega)
    clear h1
    go_wp2_with fail
    refine (times_bitlen _ x W4 HV.out (by have := HL.out.1; omega) HX0.out).mono ?_
    rintro e w5 ⟨rfl, hb⟩
    rw [HK.out]
    replace HV := Lib.hid (HV.out.stay hb)
    replace B_W1 := Lib.hid (B_W1.out.stay hb)
    replace HU0 := Lib.hid (HU0.out.stay hb)
    replace bx := Lib.hid (bx.out.stay hb)
    replace br := Lib.hid (br.out.stay hb)
    replace bo := Lib.hid (bo.out.stay hb)
    clear hb
    have h1k : max ((k : Int)) 1 = (k : Int) := by omega
    have hkk : ((k + 1 : Nat) : Int) - 1 = (k : Int) := by omega
    have hkI : (k : Int) ≤ 1536 := HKI.out
    have htest : (n : Int) ≤ 262144 / (k : Int) := HTT.out
    rw [show ((k + 1 : Nat) : Int) = (k : Int) + 1 by omega]
    have fo := bo.out.free
    have fr := br.out.free
    have o0 := bo.out.cell0
    have o1 := bo.out.cell1
    have q0 := br.out.cell0
    have q1 := br.out.cell1
    have i0 := bx.out.cell0
    have i1 := bx.out.cell1
    go_wp2_with fail
    rw [wrap_plus (show n < 9223372036854775808 by have := HN.out.2.1; omega)]
    refine (bits_len n HNW.out _).mono ?_
    rintro e w6 ⟨rfl, rfl⟩
    obtain ⟨B, hB⟩ : ∃ B, bitLen n = B := ⟨_, rfl⟩
    have hB64 : B ≤ 64 := by rw [← hB]; exact bitLen_le64 HNW.out
    have HBS := Lib.hid (show n / 2 ^ B = 0 by rw [← hB]; exact Nat.div_eq_of_lt (bitLen_spec n (by rw [← W64_two]; exact HNW.out)).1)
    rw [hB]
    clear hB o0 o1 q0 q1 i0 i1 fo fr hkI htest h1k hkk
    go_wp2_with fail
    go_loopw [7] (fun t7 wr => ∃ (i : Nat) (b : Bool) (Ao : Option Addr) (lo co : Nat), i ≤ B ∧ t7 = .int .i64 ((i : Int) - 1) ∧ Hid (Since w wr) ∧ Hid (Box2 wr g (.bool s) (.slice A l c)) ∧ Hid (Box2 wr r (.bool false) (.slice none 0 0)) ∧ Hid (Box2 wr go (.bool b) (.slice Ao lo co)) ∧ Hid (RawAt wr w.heap.size (.agg #[.bool b, .slice Ao lo co]) (rawOf (x ^ (n / 2 ^ i)))) ∧ Hid (IntV wr (.agg #[.bool s, .slice A l c]) x)) (fun t7 _ => (intOf t7 + 1).toNat)
    case atStart => exact ⟨B, b0, A0, l0, c0, Nat.le_refl _, rfl, B_W1, bx, br, bo, Lib.hid (by rw [HBS.out, Int.pow_zero]; exact HU0.out.since HSZ.out), HV⟩
    case round =>
      clear B_W1 bx br bo HU0 HV
      obtain ⟨i, b, Ao, lo, co, hi, rfl, B_W1, bx, br, bo, HU, HV⟩ := hrel
      have o0 := bo.out.cell0
      have o1 := bo.out.cell1
      have q0 := br.out.cell0
      have q1 := br.out.cell1
      have fo := bo.out.free
      have fr := br.out.free
      rcases i with _ | i
      · rw [Nat.pow_zero, Nat.div_one] at HU
        go_wp2_with fail
        refine bodyPost_ret (v := .tuple #[.agg #[.bool b, (.slice Ao lo co)], (.int .i64 0)]) (by
          rw [results_cell_tmp rfl]
          have hld := run_loadVar_row (P := Try.prog) _ r 36 36 #[.bool b, (.slice Ao lo co)] (0, 0) _ br.out.store Try.underlying36 rfl (by kernel_rfl)
          simp [asAddr, Result.andThen, hld]) rfl ?_
        exact ⟨_, rfl, HU.out.store2 br.out.nums _ _, store2_below B_W1.out HGR.out⟩
      · have e1 : ((i + 1 : Nat) : Int) - 1 = (i : Int) := by omega
        rw [e1]
        have hi64 : i ≤ 64 := by omega
        have hb0 : (0 : Int) ≤ (i : Int) := by omega
        have HST := Lib.hid (exp_step x n i)
        have HLL := Lib.hid (power_step (i := i) HX0.out HL.out.2)
        obtain ⟨u, hu⟩ : ∃ u, x ^ (n / 2 ^ (i + 1)) = u := ⟨_, rfl⟩
        obtain ⟨v, hv⟩ : ∃ v, x ^ (n / 2 ^ i) = v := ⟨_, rfl⟩
        rw [hu] at HU HST HLL
        rw [hv] at HST HLL
        have HVV := Lib.hid hv
        have hne : ¬ go = r := Nat.ne_of_gt L_br_go.out
        clear hu hv
        go_wp2_with fail
        refine (times_Square _ u wr HU.out.int (by have := HLL.out.1; omega) (by have := HLL.out.1; omega)).mono ?_
        rintro e w7 ⟨u7, rfl, hu7, hb⟩
        rw [longR_ok (by have := HLL.out.2.1; omega)] at hu7
        rw [longE_ok (by have := HLL.out.2.1; omega)]
        replace hu7 := hu7.since B_W1.out.size
        obtain ⟨b7, A7, l7, c7, rfl, HU7⟩ := hu7.open
        clear hu7 o0 o1 q0 q1 fo fr HU
        replace HV := Lib.hid (HV.out.stay hb)
        replace B_W1 := Lib.hid (B_W1.out.stay hb)
        replace bx := Lib.hid (bx.out.stay hb)
        replace br := Lib.hid (br.out.stay hb)
        replace bo := Lib.hid (bo.out.stay hb)
        clear hb
        have o0 := bo.out.cell0
        have o1 := bo.out.cell1
        have fo := bo.out.free
        go_upto_region 20 with (fail)
        obtain ⟨W8, hW8, bo8, p8⟩ := bo.out.write (.bool b7) (.slice A7 l7 c7)
        rw [hW8]
        replace B_W1 := Lib.hid (B_W1.out.put p8 L_w_go.out)
        replace bx := Lib.hid (bx.out.put p8 (Nat.ne_of_lt L_bx_go.out))
        replace br := Lib.hid (br.out.put p8 (Nat.ne_of_lt L_br_go.out))
        replace HV := Lib.hid (HV.out.put p8)
        replace HU7 := Lib.hid (HU7.out.put p8)
        clear bo o0 o1 fo hW8 p8
        have o0 := bo8.out.cell0
        have o1 := bo8.out.cell1
        have q0 := br.out.cell0
        have q1 := br.out.cell1
        have i0 := bx.out.cell0
        have i1 := bx.out.cell1
        have fo := bo8.out.free
        have fr := br.out.free
        have hbit := shift_bit n i (by have := HN.out.2.1; omega)
        rcases bit_two n i with h2 | h2
        · rw [h2] at hbit
          have HE := Lib.hid (show v = u * u by rw [HST.out, h2, if_neg (by omega), Int.mul_one])
          clear h2
          go_wp2_with fail
          exact ⟨⟨i, b7, A7, l7, c7, by omega, by go_num, B_W1, bx, br, bo8, by rw [HVV.out, HE.out]; exact HU7, HV⟩, by simp [intOf]⟩
        · rw [h2] at hbit
          have HE := Lib.hid (show v = u * u * x by rw [HST.out, h2, if_pos rfl])
          clear h2
          go_wp2_with fail
          refine (times_Mul _ _ (u * u) x W8 HU7.out.int HV.out (by have := HLL.out.2.1; omega) (by have := HL.out.1; omega) (by
            rcases Nat.eq_zero_or_pos (u * u).natAbs with h3 | h3
            · rw [h3, lc_zero]; omega
            · have h4 := lc_mul_ge h3 (show 0 < x.natAbs by have := HX.out; omega)
              rw [← Int.natAbs_mul, ← HE.out] at h4
              have := HLL.out.2.2
              omega)).mono ?_
          rintro e w9 ⟨u9, rfl, hu9, hb⟩
          rw [← HE.out] at hu9
          rw [← HE.out]
          rw [longR_ok (by have := HLL.out.2.2; omega)] at hu9
          rw [longE_ok (by have := HLL.out.2.2; omega)]
          replace hu9 := hu9.since B_W1.out.size
          obtain ⟨b9, A9, l9, c9, rfl, HU9⟩ := hu9.open
          clear hu9 o0 o1 q0 q1 i0 i1 fo fr HU7 hbit
          replace HV := Lib.hid (HV.out.stay hb)
          replace B_W1 := Lib.hid (B_W1.out.stay hb)
          replace bx := Lib.hid (bx.out.stay hb)
          replace br := Lib.hid (br.out.stay hb)
          replace bo8 := Lib.hid (bo8.out.stay hb)
          clear hb
          have o0 := bo8.out.cell0
          have o1 := bo8.out.cell1
          have fo := bo8.out.free
          obtain ⟨W10, hW10, bo, p10⟩ := bo8.out.write (.bool b9) (.slice A9 l9 c9)
          replace B_W1 := Lib.hid (B_W1.out.put p10 L_w_go.out)
          replace bx := Lib.hid (bx.out.put p10 (Nat.ne_of_lt L_bx_go.out))
          replace br := Lib.hid (br.out.put p10 (Nat.ne_of_lt L_br_go.out))
          replace HV := Lib.hid (HV.out.put p10)
          replace HU9 := Lib.hid (HU9.out.put p10)
          go_wp2_with fail
          exact ⟨⟨i, b9, A9, l9, c9, by omega, by go_num, B_W1, bx, br, bo, by rw [HVV.out]; exact HU9, HV⟩, by simp [intOf]⟩
theorem times_Power (v : Value) (x : Int) (n : Nat) (w : World) (h : IntV w v x) (hl : lc x.natAbs ≤ 24) (hp : lc (x ^ n).natAbs ≤ 24) (hn : (n : Int) < 9223372036854775808) :
    Calls Try.prog 48 #[v, .int .i64 (n : Int)] w fun e w' => ∃ u, e = .returned (.tuple #[u, .int .i64 0]) ∧ RawAt w' w.heap.size u (rawOf (x ^ n)) ∧ Below w.heap.size w w' := by
  by_cases h0 : n = 0 ∨ x.natAbs < 2
  · exact power_small v x n w h hl hp hn h0
  · exact power_great v x n w h hl hp (by omega) (by omega)
end Go.Proofs.Ytmnfokapdipcdaa
