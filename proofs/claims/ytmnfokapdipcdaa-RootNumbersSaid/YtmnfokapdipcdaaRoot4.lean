import Derived.Test.YtmnfokapdipcdaaRoot3
import Derived.Test.YtmnfokapdipcdaaRaw
/- The package root: Square, Of, Perfect. -/
namespace Go.Proofs.Ytmnfokapdipcdaa
open Go.RowKit Go.Deep
theorem isqrt_self (A : Nat) : isqrt A ≤ A := by
  have h : isqrt A * isqrt A ≤ A := (isqrt_spec A).1
  rcases Nat.eq_zero_or_pos (isqrt A) with h0 | h0
  · omega
  · exact Nat.le_trans (Nat.le_mul_of_pos_left _ h0) h
/-- A record stays when a whole number is written. -/
theorem RawAt.ext_int {w w' : World} {base m : Nat} {v : Value} {x : Raw} {z : Int} (h : RawAt w base v x) (hm : IntAt w m z) (e : Ext (· = m) w w') : RawAt w' base v x := by
  obtain ⟨A, l, c, rfl, hl, hc, hlim, hf⟩ := h
  refine ⟨A, l, c, rfl, hl, hc, (hlim.ext (Nat.le_refl _) e).more e.size, ?_⟩
  rcases hf with hf | ⟨g, cs, h1, h2, h3, h4⟩
  · exact .inl hf
  · refine .inr ⟨g, cs, h1, h2, ?_, h4⟩
    rw [e.block g (Array.getElem?_eq_some_iff.1 h3).1 (fun hg => ?_)]
    · exact h3
    · subst hg
      obtain ⟨A', c', h5, _⟩ := hm
      rw [h3] at h5
      simp at h5
theorem IntV.ext_int {w w' : World} {m : Nat} {v : Value} {x z : Int} (h : IntV w v x) (_hm : IntAt w m z) (e : Ext (· = m) w w') : IntV w' v x := by
  obtain ⟨A, l, c, rfl, hl, hc, hlim⟩ := h
  exact ⟨A, l, c, rfl, hl, hc, (hlim.ext (Nat.le_refl _) e).more e.size⟩
/-- A new whole number. -/
theorem int_new (w : World) : ∃ W r, w.alloc (.cells #[.bool false, .slice none 0 0] 84) = W ∧ w.heap.size = r ∧ IntAt W r 0 ∧ Below r w W ∧ W.heap.size = r + 1 :=
  ⟨_, _, rfl, rfl, IntAt.fresh w, (Below.refl _ _).alloc (Nat.le_refl _) _, by simp⟩
set_option maxHeartbeats 1000000 in
set_option maxRecDepth 100000 in
theorem root_Square (v : Value) (A : Nat) (w : World) (h : IntV w v (A : Int)) (hl : lc A ≤ 4096) :
    Calls Try.prog 34 #[v] w fun e w' => ∃ u r, e = .returned (.tuple #[u, r, .int .i64 0]) ∧ RawAt w' w.heap.size u (rawOf (isqrt A : Nat)) ∧ RawAt w' w.heap.size r (rawOf (A - isqrt A * isqrt A : Nat)) ∧ Below w.heap.size w w' := by
  obtain ⟨s1, A1, l1, c1, rfl, HU⟩ := h.open
  have HL := Lib.hid hl
  obtain rfl : s1 = false := by rw [HU.out.parts.1]; exact decide_eq_false (by omega)
  clear h hl
  go_enter Try.func34, Try.ntmps34
  go_wp2_with fail
  obtain ⟨W0, g, h, r, hW, hg, hh, hr, hgr, bx, by_, br, hbw, hsz⟩ := box_three w (.bool false) (.slice A1 l1 c1) (.bool false) (.slice none 0 0) (.bool false) (.slice none 0 0)
  have HW := Lib.hid (show w.heap.size = g from hg)
  have HBWS := Lib.hid (show Below w.heap.size w W0 from by rw [hg]; exact hbw)
  have HGR := Lib.hid hgr
  have HSZ := Lib.hid hsz
  have HU0 := Lib.hid (HU.out.below HBWS.out)
  rw [hW, hr, hh, hg]
  clear hW hr hh hg hgr hsz hbw
  refine (right_int _ (A : Int) W0 HU0.out (by rw [Int.natAbs_natCast]; exact HL.out)).mono ?_
  rintro e w1 ⟨rfl, hb1⟩
  have bx1 := bx.below hb1 bx.lt
  have hbw1 := HBWS.out.trans (hb1.mono HBWS.out.size)
  have HU1 := Lib.hid (HU0.out.below hb1)
  have a0 := bx1.cell0
  have a1 := bx1.cell1
  go_wp2_with fail
  refine (root_value _ (A : Int) w1 HU1.out (by rw [Int.natAbs_natCast]; exact HL.out)).mono ?_
  rintro e w2 ⟨gn, rfl, hgn, hn2, hb2⟩
  clear a0 a1
  go_wp2_with fail
  have HN := Lib.hid hgn
  have HGN := Lib.hid (show w.heap.size ≤ gn from Nat.le_trans hbw1.size HN.out)
  have hbw2 := hbw1.trans (hb2.mono hbw1.size)
  have by2 := (by_.below hb1 by_.lt).below hb2 (Nat.lt_of_lt_of_le by_.lt hb1.size)
  have br2 := (br.below hb1 br.lt).below hb2 (Nat.lt_of_lt_of_le br.lt hb1.size)
  have HAB := Lib.hid (show h < gn ∧ r < gn from ⟨Nat.lt_of_lt_of_le by_.lt (Nat.le_trans hb1.size hgn), Nat.lt_of_lt_of_le br.lt (Nat.le_trans hb1.size hgn)⟩)
  clear bx1 hbw1 hb1 hb2 bx by_ br hgn HBWS HN HU1 HU0
  obtain ⟨W3, q, hW, hq, hq0, hb3, hs3⟩ := int_new w2
  rw [hW, hq]
  have HLQ := Lib.hid (show gn < q from by rw [← hq]; exact hn2.lt)
  have hb3' : Below w2.heap.size w2 W3 := by rw [hq]; exact hb3
  have hn3 := hn2.below hb3'
  have hbw3 := Lib.hid (hbw2.trans (hb3'.mono hbw2.size))
  have by3 := by2.below hb3' by2.lt
  have br3 := br2.below hb3' br2.lt
  have HQS := Lib.hid (show w.heap.size ≤ q from by rw [← hq]; exact hbw2.size)
  clear hb3 hb3' hbw2 by2 br2 hn2 hW hq hs3
  refine (int_sqrt q gn 0 (A : Int) W3 hq0 hn3 (by rw [Int.natAbs_natCast]; have := HL.out; unfold lc at this; omega)).mono ?_
  rintro e w4 ⟨rfl, hq4, he4⟩
  rw [Int.natAbs_natCast] at hq4
  have hn4 := hn3.ext he4 (by have := HLQ.out; omega)
  have hbw4 := Lib.hid (((Ext.of_below hbw3.out).hidden he4 HQS.out).below)
  have by4 := by3.ext he4 (by have := HLQ.out; have := HAB.out; omega)
  have br4 := br3.ext he4 (by have := HLQ.out; have := HAB.out; omega)
  clear hq0 hn3 hbw3 by3 br3 he4
  have HLS := Lib.hid (show lc (isqrt A) ≤ 4096 from Nat.le_trans (limbs_mono (isqrt_self A)) HL.out)
  go_wp2_with fail
  refine (root_told q (isqrt A : Nat) w4 hq4 (by rw [Int.natAbs_natCast]; have := HLS.out; unfold lc at this; omega)).mono ?_
  rintro e w5 ⟨u, rfl, hu5, hb5⟩
  have hn5 := hn4.below hb5
  have hq5 := hq4.below hb5
  have by5 := by4.below hb5 by4.lt
  have br5 := br4.below hb5 br4.lt
  have hbw5 := Lib.hid (hbw4.out.trans (hb5.mono hbw4.out.size))
  have HG4 := Lib.hid hn4.lt
  have HBS := Lib.hid hb5.size
  clear hn4 hq4 by4 br4 hb5
  go_wp2_with fail
  obtain ⟨W6, m, hW, hm, hm0, hb6, hs6⟩ := int_new w5
  rw [hW, hm]
  have hb6' : Below w5.heap.size w5 W6 := by rw [hm]; exact hb6
  have hn6 := hn5.below hb6'
  have hq6 := hq5.below hb6'
  have hu6 := hu5.below hb6'
  have by6 := by5.below hb6' by5.lt
  have br6 := br5.below hb6' br5.lt
  have hbw6 := Lib.hid (hbw5.out.trans (hb6'.mono hbw5.out.size))
  have HM := Lib.hid (show gn < m ∧ q < m ∧ w4.heap.size ≤ m ∧ w.heap.size ≤ m from by rw [← hm]; exact ⟨hn5.lt, hq5.lt, HBS.out, hbw5.out.size⟩)
  have HH := Lib.hid (show h < m ∧ r < m from by rw [← hm]; exact ⟨by5.lt, br5.lt⟩)
  clear hn5 hq5 hu5 by5 br5 hbw5 hb6 hb6' hW hm hs6
  refine (int_mul m q q 0 _ _ W6 hm0 hq6 hq6 (by rw [Int.natAbs_natCast]; have := HLS.out; unfold lc at this; omega) (by rw [Int.natAbs_natCast]; have := HLS.out; unfold lc at this; omega)).mono ?_
  rintro e w7 ⟨rfl, hm7, he7⟩
  have hn7 := hn6.ext he7 (by have := HM.out; omega)
  have hu7 := hu6.ext_int hm0 he7
  have by7 := by6.ext he7 (by have := HH.out; omega)
  have br7 := br6.ext he7 (by have := HH.out; omega)
  have hbw7 := Lib.hid (((Ext.of_below hbw6.out).hidden he7 HM.out.2.2.2).below)
  clear hm0 hq6 hn6 hu6 by6 br6 hbw6 he7
  go_wp2_with fail
  refine (int_sub gn gn m _ _ _ w7 hn7 hn7 hm7 (by rw [Int.natAbs_natCast]; have := HL.out; unfold lc at this; omega) (by rw [← Int.natCast_mul, Int.natAbs_natCast]; have := Nat.le_trans (limbs_mono (isqrt_spec A).1) HL.out; omega)).mono ?_
  rintro e w8 ⟨rfl, hn8, he8⟩
  have hu8 := hu7.ext_int hn7 he8
  have by8 := by7.ext he8 (by have := HAB.out; omega)
  have br8 := br7.ext he8 (by have := HAB.out; omega)
  have hbw8 := Lib.hid (((Ext.of_below hbw7.out).hidden he8 HGN.out).below)
  have eA : ((A : Int) - (isqrt A : Int) * (isqrt A : Int)) = ((A - isqrt A * isqrt A : Nat) : Int) := by
    rw [Int.natCast_sub (isqrt_spec A).1, Int.natCast_mul]
  rw [eA] at hn8
  clear hn7 hm7 hu7 by7 br7 hbw7 he8 eA
  go_wp2_with fail
  refine (root_told gn _ w8 hn8 (by rw [Int.natAbs_natCast]; have := Nat.le_trans (limbs_mono (Nat.sub_le A (isqrt A * isqrt A))) HL.out; omega)).mono ?_
  rintro e w9 ⟨v, rfl, hv9, hb9⟩
  have hu9 := hu8.below hb9
  have by9 := by8.below hb9 by8.lt
  have br9 := br8.below hb9 br8.lt
  have hbw9 := Lib.hid (hbw8.out.trans (hb9.mono hbw8.out.size))
  have HV9 := Lib.hid (hv9.since hbw8.out.size)
  clear hn8 by8 br8 hbw8 hb9 hv9
  obtain ⟨bu, Au, lu, cu, rfl, HU9⟩ := (hu9.since hbw4.out.size).open
  obtain ⟨bv, Av, lv, cv, rfl, HVV⟩ := HV9.out.open
  have n0 := by9.nums
  have n1 := br9.nums
  have HS1 := Lib.hid hbw9
  have HGH := Lib.hid (show w.heap.size ≤ h ∧ w.heap.size ≤ r ∧ h ≠ r from by have := HW.out; have := HGR.out; omega)
  clear hu9 HV9 hbw9
  have a0 := by9.cell0
  have a1 := by9.cell1
  have f0 := by9.free 0
  have f1 := by9.free 1
  have c0 := br9.cell0
  have c1' := br9.cell1
  have g0 := br9.free 0
  have g1 := br9.free 1
  have hne : ¬ h = r := HGH.out.2.2
  go_wp2_with fail
  have bh := Box2.far (h := r) (a := .bool bv) (b := .slice Av lv cv) (by9.store (a := .bool bu) (b := .slice Au lu cu)) (fun e => hne e.symm)
  have brr := Box2.far (h := h) (a := .bool bu) (b := .slice Au lu cu) br9 hne
  refine bodyPost_ret (v := .tuple #[.agg #[.bool bu, (.slice Au lu cu)], .agg #[.bool bv, (.slice Av lv cv)], (.int .i64 0)]) (by
    rw [results_rec2 rfl]
    have hld := run_loadVar_row (P := Try.prog) _ h 36 36 #[.bool bu, (.slice Au lu cu)] (0, 0) _ bh Try.underlying36 rfl (by kernel_rfl)
    have hld2 := run_loadVar_row (P := Try.prog) _ r 36 36 #[.bool bv, (.slice Av lv cv)] (0, 0) _ brr.store Try.underlying36 rfl (by kernel_rfl)
    simp [asAddr, Result.andThen, hld, hld2]) rfl ?_
  exact ⟨_, _, rfl, (HU9.out.store2 n0 _ _).store2 brr.nums _ _, (HVV.out.store2 n0 _ _).store2 brr.nums _ _, store2_below (store2_below HS1.out.out HGH.out.1) HGH.out.2.1⟩
theorem and_one_i64 (n : Nat) (h : (n : Int) < 9223372036854775808) : bits BinOp.and IntKind.i64 (n : Int) 1 = ((n % 2 : Nat) : Int) := by
  have h1 : (BitVec.ofInt 64 (n : Int)).toNat = n := by
    rw [BitVec.ofInt_natCast, BitVec.toNat_ofNat]; exact Nat.mod_eq_of_lt (by omega)
  have h2 : (BitVec.ofInt 64 ((1 : Nat) : Int)).toNat = 1 := by
    rw [BitVec.ofInt_natCast, BitVec.toNat_ofNat]
  show IntKind.i64.wrap ((BitVec.ofInt 64 (n : Int) &&& BitVec.ofInt 64 ((1 : Nat) : Int)).toNat : Int) = _
  rw [BitVec.toNat_and, h1, h2, Nat.and_one_is_mod]
  rw [IntKind.wrap_i64]
  omega
/-- The root told of a whole number. -/
def rootZ (n : Nat) (z : Int) : Int := if 0 ≤ z then (iroot n z.natAbs : Nat) else -((if iroot n z.natAbs ^ n < z.natAbs then iroot n z.natAbs + 1 else iroot n z.natAbs : Nat) : Int)
set_option maxHeartbeats 1000000 in
set_option maxRecDepth 100000 in
theorem root_Of (v : Value) (z : Int) (n : Nat) (w : World) (h : IntV w v z) (hl : lc z.natAbs ≤ 4096) (hn1 : 1 ≤ n) (hn : (n : Int) < 9223372036854775808) (ho : z < 0 → n % 2 = 1) :
    Calls Try.prog 37 #[v, .int .i64 (n : Int)] w fun e w' => ∃ u, e = .returned (.tuple #[u, .int .i64 0]) ∧ RawAt w' w.heap.size u (rawOf (rootZ n z)) ∧ Below w.heap.size w w' := by
  obtain ⟨s1, A1, l1, c1, rfl, HU⟩ := h.open
  have HL := Lib.hid hl
  have HS := Lib.hid HU.out.parts.1
  have HNN := Lib.hid (And.intro hn1 hn)
  have HO := Lib.hid ho
  clear h hl ho
  go_enter Try.func37, Try.ntmps37
  go_wp2_with fail
  obtain ⟨W0, g, r, hW, hg, hr, hgr, bx, br, hbw, hsz⟩ := box_two w (.bool s1) (.slice A1 l1 c1) (.bool false) (.slice none 0 0)
  have HW := Lib.hid (show w.heap.size = g from hg)
  have HBWS := Lib.hid (show Below w.heap.size w W0 from by rw [hg]; exact hbw)
  have HGR := Lib.hid hgr
  have HSZ := Lib.hid hsz
  have HU0 := Lib.hid (HU.out.below HBWS.out)
  rw [hW, hr, hg]
  clear hW hr hg hgr hsz hbw
  refine (right_int _ z W0 HU0.out HL.out).mono ?_
  rintro e w1 ⟨rfl, hb1⟩
  have bx1 := bx.below hb1 bx.lt
  have br1 := br.below hb1 br.lt
  have hbw1 := Lib.hid (HBWS.out.trans (hb1.mono HBWS.out.size))
  have HU1 := Lib.hid (HU0.out.below hb1)
  have a0 := bx1.cell0
  have a1 := bx1.cell1
  have HB1 := Lib.hid (show g < w1.heap.size ∧ r < w1.heap.size from ⟨bx1.lt, br1.lt⟩)
  obtain ⟨m, hm⟩ : ∃ m : Int, (n : Int) = m := ⟨_, rfl⟩
  have HM := Lib.hid hm
  have hm1 : ¬ (m < 1) := by omega
  rw [hm]
  clear bx br hb1 HU0 HBWS hn1 hn hm
  by_cases hz : 0 ≤ z
  · obtain rfl : s1 = false := by rw [HS.out]; exact decide_eq_false (by omega)
    have HZ := Lib.hid hz
    clear hz
    go_wp2_with fail
    refine (root_value _ z w1 HU1.out HL.out).mono ?_
    rintro e w2 ⟨gx, rfl, hgx, hx2, hb2⟩
    have hbw2 := Lib.hid (hbw1.out.trans (hb2.mono hbw1.out.size))
    have br2 := br1.below hb2 br1.lt
    have bx2 := bx1.below hb2 bx1.lt
    have b0 := bx2.cell0
    clear hbw1 hb2 hgx a0 a1 bx1
    go_wp2_with fail
    obtain ⟨Z, hZ⟩ : ∃ Z : Nat, z = (Z : Int) := ⟨z.natAbs, by have := HZ.out; omega⟩
    have HZZ := Lib.hid hZ
    have HA := Lib.hid (show Z = z.natAbs by omega)
    rw [hZ] at hx2
    rw [← HM.out]
    clear hZ b0 hm1
    refine (root_floor gx n Z w2 hx2 HNN.out.1 HNN.out.2 (by have h := Nat.le_trans (nbits_le_lc Z) (Nat.mul_le_mul_left 64 (show lc Z ≤ 4096 from by rw [HA.out]; exact HL.out)); omega)).mono ?_
    rintro e w3 ⟨gr, rfl, hgr3, hr3, hb3⟩
    have hbw3 := Lib.hid (hbw2.out.trans (hb3.mono hbw2.out.size))
    have br3 := br2.below hb3 br2.lt
    clear hbw2 hb3 hgr3 hx2 br1 br2
    have HLR := Lib.hid (show lc (iroot n Z) ≤ 4096 from Nat.le_trans (limbs_mono (iroot_le HNN.out.1 Z)) (by rw [HA.out]; exact HL.out))
    go_wp2_with fail
    refine (root_told gr _ w3 hr3 (by rw [Int.natAbs_natCast]; have := HLR.out; unfold lc at this; omega)).mono ?_
    rintro e w4 ⟨u, rfl, hu4, hb4⟩
    have hbw4 := Lib.hid (hbw3.out.trans (hb4.mono hbw3.out.size))
    have br4 := br3.below hb4 br3.lt
    obtain ⟨bu, Au, lu, cu, rfl, HU4⟩ := (hu4.since hbw3.out.size).open
    clear hbw3 hb4 hr3 br3 hu4
    have a0 := br4.cell0
    have a1 := br4.cell1
    have f0 := br4.free 0
    have f1 := br4.free 1
    have nn := br4.nums
    have HGG := Lib.hid (show w.heap.size ≤ r from by have := HW.out; have := HGR.out; omega)
    go_wp2_with fail
    refine bodyPost_ret (v := .tuple #[.agg #[.bool bu, (.slice Au lu cu)], (.int .i64 0)]) (by
      rw [results_cell_tmp rfl]
      have hld := run_loadVar_row (P := Try.prog) _ r 36 36 #[.bool bu, (.slice Au lu cu)] (0, 0) _ br4.store Try.underlying36 rfl (by kernel_rfl)
      simp [asAddr, Result.andThen, hld]) rfl ?_
    refine ⟨_, rfl, ?_, store2_below hbw4.out HGG.out⟩
    have e : rootZ n z = (iroot n Z : Nat) := by unfold rootZ; rw [if_pos HZ.out, ← HA.out]
    rw [e]
    exact HU4.out.store2 nn _ _
  · obtain rfl : s1 = true := by rw [HS.out]; exact decide_eq_true (by omega)
    have HZ := Lib.hid hz
    have HO2 := Lib.hid (HO.out (by omega))
    have ho2 : ¬ (m < 1 ∨ (bits BinOp.and IntKind.i64 m 1 == 0) = true) := by
      rw [← HM.out, and_one_i64 n HNN.out.2, HO2.out]
      have := HNN.out
      simp
      omega
    clear hz
    go_wp2_with fail
    refine (root_value _ z w1 HU1.out HL.out).mono ?_
    rintro e w2 ⟨gx, rfl, hgx, hx2, hb2⟩
    have hbw2 := Lib.hid (hbw1.out.trans (hb2.mono hbw1.out.size))
    have br2 := br1.below hb2 br1.lt
    have bx2 := bx1.below hb2 bx1.lt
    have b0 := bx2.cell0
    have HGX := Lib.hid (show r < gx ∧ w.heap.size ≤ gx from ⟨Nat.lt_of_lt_of_le br1.lt hgx, Nat.le_trans hbw1.out.size hgx⟩)
    clear hbw1 hb2 hgx a0 a1 bx1 br1 bx2
    go_wp2_with fail
    clear b0
    refine (int_neg gx gx z z w2 hx2 hx2 (by have := HL.out; unfold lc at this; omega)).mono ?_
    rintro e w3 ⟨rfl, hx3, he3⟩
    obtain ⟨Z, hZ⟩ : ∃ Z : Nat, -z = (Z : Int) := ⟨z.natAbs, by have := HZ.out; omega⟩
    have HZZ := Lib.hid hZ
    have HA := Lib.hid (show Z = z.natAbs by omega)
    rw [hZ] at hx3
    have br3 := br2.ext he3 (by have := HGX.out; omega)
    have hbw3 := Lib.hid (((Ext.of_below hbw2.out).hidden he3 HGX.out.2).below)
    rw [← HM.out]
    clear hZ hm1 hx2 br2 hbw2 he3
    go_wp2_with fail
    have HZ1 := Lib.hid (show 1 ≤ Z from by have := HZ.out; have := HZZ.out; omega)
    have HLZ := Lib.hid (show lc Z ≤ 4096 from by rw [HA.out]; exact HL.out)
    refine (root_floor gx n Z w3 hx3 HNN.out.1 HNN.out.2 (by have h := Nat.le_trans (nbits_le_lc Z) (Nat.mul_le_mul_left 64 HLZ.out); omega)).mono ?_
    rintro e w4 ⟨gr, rfl, hgr4, hr4, hb4⟩
    have HLR := Lib.hid (show lc (iroot n Z) ≤ 4096 from Nat.le_trans (limbs_mono (iroot_le HNN.out.1 Z)) HLZ.out)
    have HLP := Lib.hid (show lc (iroot n Z ^ n) ≤ 4096 from Nat.le_trans (limbs_mono (iroot_pow HNN.out.1 Z)) HLZ.out)
    have HR1 := Lib.hid (iroot_pos HNN.out.1 HZ1.out)
    have HEZ : Hid (rootZ n z = -((if iroot n Z ^ n < Z then iroot n Z + 1 else iroot n Z : Nat) : Int)) := Lib.hid (by unfold rootZ; rw [if_neg (by have := HZ.out; omega), ← HA.out])
    have hx4 := hx3.below hb4
    have br4 := br3.below hb4 br3.lt
    have hbw4 := Lib.hid (hbw3.out.trans (hb4.mono hbw3.out.size))
    have HGR4 := Lib.hid (show w.heap.size ≤ gr ∧ r < gr from ⟨Nat.le_trans hbw3.out.size hgr4, Nat.lt_of_lt_of_le br3.lt hgr4⟩)
    have HNR := Lib.hid (show gr ≠ gx from by have := hx3.lt; omega)
    clear hbw3 hb4 hgr4 hx3 br3
    obtain ⟨R, hR⟩ : ∃ R, iroot n Z = R := ⟨_, rfl⟩
    rw [hR] at hr4 HLR HLP HR1 HEZ
    have HRE := Lib.hid hR
    clear hR
    go_upto_region 8 with (fail)
    go_cut [63] (fun t wx => t = .bool (decide (R ^ n < Z)) ∧ IntAt wx gx Z ∧ IntAt wx gr R ∧ Box2 wx r (.bool false) (.slice none 0 0) ∧ Below w.heap.size w wx)
    case first =>
      go_wp2_with fail
      refine (big_newInt 1 w4 (by omega) (by omega)).mono ?_
      rintro e w5 ⟨rfl, ho5, he5⟩
      have hr5 := hr4.ext he5 (fun h => h)
      have hx5 := hx4.ext he5 (fun h => h)
      have br5 := br4.ext he5 (fun h => h)
      have hbw5 := Lib.hid (hbw4.out.trans (he5.below.mono hbw4.out.size))
      clear hr4 hx4 br4 hbw4 he5
      go_wp2_with fail
      refine (int_cmp gr w4.heap.size _ _ w5 hr5 ho5 (by rw [Int.natAbs_natCast]; have := HLR.out; unfold lc at this; omega) (Nat.le_trans one_len (by omega))).mono ?_
      rintro e w6 ⟨rfl, q6, rfl⟩
      have hr6 := hr5.drewN q6
      have hx6 := hx5.drewN q6
      have br6 := br5.drewN q6
      have hbw6 := Lib.hid (below_drewN hbw5.out q6)
      generalize w5.drewN q6 = w6 at hr6 hx6 br6 hbw6 ⊢
      clear hr5 hx5 br5 hbw5 ho5
      by_cases h1 : R = 1
      · have e1 : cmpZ (R : Int) 1 = 0 := by rw [h1]; exact cmpZ_eq 1
        rw [e1]
        have HR := Lib.hid h1
        clear h1
        go_wp2_with fail
        refine (big_newInt 1 w6 (by omega) (by omega)).mono ?_
        rintro e w7 ⟨rfl, ho7, he7⟩
        have hr7 := hr6.ext he7 (fun h => h)
        have hx7 := hx6.ext he7 (fun h => h)
        have br7 := br6.ext he7 (fun h => h)
        have hbw7 := Lib.hid (hbw6.out.trans (he7.below.mono hbw6.out.size))
        clear hr6 hx6 br6 hbw6 he7
        go_wp2_with fail
        refine (int_cmp gr w6.heap.size _ _ w7 hr7 ho7 (by rw [Int.natAbs_natCast]; have := HLR.out; unfold lc at this; omega) (Nat.le_trans one_len (by omega))).mono ?_
        rintro e w8 ⟨rfl, q8, rfl⟩
        have hr8 := hr7.drewN q8
        have hx8 := hx7.drewN q8
        have br8 := br7.drewN q8
        have hbw8 := Lib.hid (below_drewN hbw7.out q8)
        generalize w7.drewN q8 = w8 at hr8 hx8 br8 hbw8 ⊢
        clear hr7 hx7 br7 hbw7 ho7
        rw [e1]
        clear e1
        go_wp2_with fail
        refine (int_cmp gx gr _ _ w8 hx8 hr8 (by rw [Int.natAbs_natCast]; have := HLZ.out; unfold lc at this; omega) (by rw [Int.natAbs_natCast]; have := HLR.out; unfold lc at this; omega)).mono ?_
        rintro e w9 ⟨rfl, q9, rfl⟩
        have hr9 := hr8.drewN q9
        have hx9 := hx8.drewN q9
        have br9 := br8.drewN q9
        have hbw9 := Lib.hid (below_drewN hbw8.out q9)
        generalize w8.drewN q9 = w9 at hr9 hx9 br9 hbw9 ⊢
        clear hr8 hx8 br8 hbw8
        by_cases hp : R ^ n < Z
        · have e2 : cmpZ (Z : Int) (R : Int) = 1 := cmpZ_gt (by have h := hp; rw [HR.out, Nat.one_pow] at h; rw [HR.out]; omega)
          rw [e2]
          have HP := Lib.hid hp
          clear hp
          go_wp2_with fail
          go_meet
          exact ⟨by rw [decide_eq_true HP.out], hx9, hr9, br9, hbw9.out⟩
        · have e2 : cmpZ (Z : Int) (R : Int) = 0 := by
            have h := hp
            rw [HR.out, Nat.one_pow] at h
            rw [HR.out, show Z = 1 from by have := HZ1.out; omega]
            exact cmpZ_eq _
          rw [e2]
          have HP := Lib.hid hp
          clear hp
          go_wp2_with fail
          go_meet
          exact ⟨by rw [decide_eq_false HP.out], hx9, hr9, br9, hbw9.out⟩
      · have e1 : cmpZ (R : Int) 1 = 1 := cmpZ_gt (by have := HR1.out; omega)
        rw [e1]
        have HE1 := Lib.hid e1
        clear h1 e1
        go_wp2_with fail
        refine (root_power gr n R w6 hr6 (by rw [← Int.natCast_pow, Int.natAbs_natCast]; have := HLP.out; unfold lc at this; omega) (by rw [Int.natAbs_natCast]; have := HLR.out; unfold lc at this; omega) HNN.out.2).mono ?_
        rintro e w7 ⟨gp, rfl, hgp, hp7, hb7⟩
        have hr7 := hr6.below hb7
        have hx7 := hx6.below hb7
        have br7 := br6.below hb7 br6.lt
        have hbw7 := Lib.hid (hbw6.out.trans (hb7.mono hbw6.out.size))
        clear hr6 hx6 br6 hbw6 hb7 hgp
        go_wp2_with fail
        refine (int_cmp gp gx _ _ w7 hp7 hx7 (by rw [← Int.natCast_pow, Int.natAbs_natCast]; have := HLP.out; unfold lc at this; omega) (by rw [Int.natAbs_natCast]; have := HLZ.out; unfold lc at this; omega)).mono ?_
        rintro e w8 ⟨rfl, q8, rfl⟩
        have hr8 := hr7.drewN q8
        have hx8 := hx7.drewN q8
        have br8 := br7.drewN q8
        have hbw8 := Lib.hid (below_drewN hbw7.out q8)
        generalize w7.drewN q8 = w8 at hr8 hx8 br8 hbw8 ⊢
        clear hr7 hx7 br7 hbw7 hp7
        by_cases hp : R ^ n < Z
        · have e2 : cmpZ ((R : Int) ^ n) (Z : Int) = -1 := cmpZ_lt (by rw [← Int.natCast_pow]; omega)
          rw [e2]
          have HP := Lib.hid hp
          clear hp
          go_wp2_with fail
          go_meet
          exact ⟨by rw [decide_eq_true HP.out], hx8, hr8, br8, hbw8.out⟩
        · have e2 : ¬ (cmpZ ((R : Int) ^ n) (Z : Int) < 0) := by
            rw [← Int.natCast_pow]
            unfold cmpZ
            rw [if_neg (by omega)]
            split <;> omega
          obtain ⟨C, hC⟩ : ∃ C, cmpZ ((R : Int) ^ n) (Z : Int) = C := ⟨_, rfl⟩
          rw [hC] at e2 ⊢
          have HP := Lib.hid hp
          clear hp hC
          go_wp2_with fail
          refine (big_newInt 1 w8 (by omega) (by omega)).mono ?_
          rintro e w9 ⟨rfl, ho9, he9⟩
          have hr9 := hr8.ext he9 (fun h => h)
          have hx9 := hx8.ext he9 (fun h => h)
          have br9 := br8.ext he9 (fun h => h)
          have hbw9 := Lib.hid (hbw8.out.trans (he9.below.mono hbw8.out.size))
          clear hr8 hx8 br8 hbw8 he9
          go_wp2_with fail
          refine (int_cmp gr w8.heap.size _ _ w9 hr9 ho9 (by rw [Int.natAbs_natCast]; have := HLR.out; unfold lc at this; omega) (Nat.le_trans one_len (by omega))).mono ?_
          rintro e w10 ⟨rfl, q10, rfl⟩
          have hr10 := hr9.drewN q10
          have hx10 := hx9.drewN q10
          have br10 := br9.drewN q10
          have hbw10 := Lib.hid (below_drewN hbw9.out q10)
          generalize w9.drewN q10 = w10 at hr10 hx10 br10 hbw10 ⊢
          clear hr9 hx9 br9 hbw9 ho9
          rw [HE1.out]
          go_wp2_with fail
          go_meet
          exact ⟨by rw [decide_eq_false HP.out, decide_eq_false (show ¬ C < 0 by omega)], hx10, hr10, br10, hbw10.out⟩
    case rest =>
      obtain ⟨rfl, hx5, hr5, br5, hbw5⟩ := hcut
      clear hx4 hr4 br4 hbw4
      go_upto_if 63 with (fail)
      go_cut [] (fun wx => IntAt wx gr ((if R ^ n < Z then R + 1 else R : Nat) : Int) ∧ Box2 wx r (.bool false) (.slice none 0 0) ∧ Below w.heap.size w wx)
      case first =>
        by_cases hp : R ^ n < Z
        · rw [decide_eq_true hp]
          have HP := Lib.hid hp
          clear hp
          go_wp2_with fail
          refine (big_newInt 1 _ (by omega) (by omega)).mono ?_
          rintro e w7 ⟨rfl, ho7, he7⟩
          have hr7 := hr5.ext he7 (fun h => h)
          have br7 := br5.ext he7 (fun h => h)
          have hbw7 := Lib.hid (hbw5.trans (he7.below.mono hbw5.size))
          have HGO := Lib.hid hr5.lt
          clear hr5 hx5 br5 hbw5 he7
          go_wp2_with fail
          refine (int_add gr gr _ _ _ _ w7 hr7 hr7 ho7 (by rw [Int.natAbs_natCast]; have := HLR.out; unfold lc at this; omega) (Nat.le_trans one_len (by omega))).mono ?_
          rintro e w8 ⟨rfl, hr8, he8⟩
          have br8 := br7.ext he8 (by have := HGR4.out; omega)
          have hbw8 := Lib.hid (((Ext.of_below hbw7.out).hidden he8 HGR4.out.1).below)
          clear hr7 ho7 br7 hbw7 he8
          go_wp2_with fail
          go_meet
          exact ⟨by rw [if_pos HP.out]; exact hr8, br8, hbw8.out⟩
        · rw [decide_eq_false hp]
          have HP := Lib.hid hp
          clear hp
          go_wp2_with fail
          go_meet
          exact ⟨by rw [if_neg HP.out]; exact hr5, br5, hbw5⟩
      case rest =>
        clear hx5 hr5 br5 hbw5
        obtain ⟨hr5, br5, hbw5⟩ := hcut
        have HB5 := Lib.hid hbw5
        obtain ⟨S, hS⟩ : ∃ S : Nat, (if R ^ n < Z then R + 1 else R) = S := ⟨_, rfl⟩
        have HLS := Lib.hid (show (limbs S).length ≤ 4097 from by
          have h1 := HLR.out
          have h3 : lc 1 ≤ 1 := one_len
          have h2 : lc (R + 1) ≤ 4097 := Nat.le_trans (lc_add R 1) (by omega)
          rw [← hS]
          split
          · exact h2
          · exact Nat.le_trans h1 (by omega))
        rw [hS] at hr5
        have HEZ2 := HEZ.out
        rw [hS] at HEZ2
        clear HEZ hS hbw5
        have HEZ := Lib.hid HEZ2
        clear HEZ2
        go_wp2_with fail
        refine (int_neg gr gr _ _ _ hr5 hr5 (by rw [Int.natAbs_natCast]; have := HLS.out; omega)).mono ?_
        rintro e w7 ⟨rfl, hr7, he7⟩
        have br7 := br5.ext he7 (by have := HGR4.out; omega)
        have hbw7 := Lib.hid (((Ext.of_below HB5.out).hidden he7 HGR4.out.1).below)
        clear hr5 br5 HB5 he7
        go_wp2_with fail
        refine (root_told gr _ w7 hr7 (by rw [Int.natAbs_neg, Int.natAbs_natCast]; have := HLS.out; omega)).mono ?_
        rintro e w8 ⟨u, rfl, hu8, hb8⟩
        have hbw8 := Lib.hid (hbw7.out.trans (hb8.mono hbw7.out.size))
        have br8 := br7.below hb8 br7.lt
        obtain ⟨bu, Au, lu, cu, rfl, HU8⟩ := (hu8.since hbw7.out.size).open
        clear hbw7 hb8 hr7 br7 hu8
        have a0 := br8.cell0
        have a1 := br8.cell1
        have f0 := br8.free 0
        have f1 := br8.free 1
        have nn := br8.nums
        have HGG := Lib.hid (show w.heap.size ≤ r from by have := HW.out; have := HGR.out; omega)
        go_wp2_with fail
        refine bodyPost_ret (v := .tuple #[.agg #[.bool bu, (.slice Au lu cu)], (.int .i64 0)]) (by
          rw [results_cell_tmp rfl]
          have hld := run_loadVar_row (P := Try.prog) _ r 36 36 #[.bool bu, (.slice Au lu cu)] (0, 0) _ br8.store Try.underlying36 rfl (by kernel_rfl)
          simp [asAddr, Result.andThen, hld]) rfl ?_
        refine ⟨_, rfl, ?_, store2_below hbw8.out HGG.out⟩
        rw [HEZ.out]
        exact HU8.out.store2 nn _ _
end Go.Proofs.Ytmnfokapdipcdaa
