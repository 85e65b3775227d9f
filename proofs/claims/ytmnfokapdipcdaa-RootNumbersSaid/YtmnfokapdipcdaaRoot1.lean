import Derived.Test.YtmnfokapdipcdaaInt5
import Derived.Test.YtmnfokapdipcdaaBox
import Derived.Test.YtmnfokapdipcdaaRootP
import Derived.Test.YtmnfokapdipcdaaApp
/- The package root: value, told, power. -/
namespace Go.Proofs.Ytmnfokapdipcdaa
open Go.RowKit Go.Deep
set_option maxHeartbeats 1000000 in
set_option maxRecDepth 100000 in
theorem root_value (v : Value) (z : Int) (w : World) (h : IntV w v z) (hl : lc z.natAbs ≤ 4096) :
    Calls Try.prog 71 #[v] w fun e w' => ∃ g, e = .returned (.pointer (some ⟨g, 0, none⟩)) ∧ w.heap.size ≤ g ∧ IntAt w' g z ∧ Below w.heap.size w w' := by
  obtain ⟨A, l, c, rfl, hll, hc, hlim⟩ := h
  have HSG := Lib.hid (signed_of z)
  obtain ⟨ms, hms⟩ : ∃ ms, limbs z.natAbs = ms := ⟨_, rfl⟩
  have HVM := Lib.hid (show val ms = z.natAbs by rw [← hms, val_limbs])
  have hln : ms.length ≤ 4096 := by rw [← hms]; exact hl
  rw [hms] at hll hlim
  obtain ⟨s, hs⟩ : ∃ s, decide (z < 0) = s := ⟨_, rfl⟩
  rw [hs]
  have HS := Lib.hid hs
  have HLL := Lib.hid hll
  have HLN := Lib.hid hln
  have hlI : (l : Int) ≤ 4096 := by omega
  have hmk := make_words l (by omega)
  clear hms hs hll hln hl
  go_enter Try.func71, Try.ntmps71
  go_wp2_with fail
  have hex : ∃ (W : World) (b r : Nat), (w.alloc (.cells #[.bool s, .slice A l c] 36)).alloc (.cells (madeCells #[.int .u64 0] l) 111) = W ∧ w.heap.size = b ∧ w.heap.size + 1 = r ∧ r = b + 1 ∧ W.heap.size = b + 2 ∧ Box2 W b (.bool s) (.slice A l c) ∧ Row W r (List.replicate l 0) ∧ Below b w W := by
    refine ⟨_, _, _, rfl, rfl, rfl, rfl, by simp, ?_, ?_, ((Below.refl _ _).alloc (Nat.le_refl _) _).alloc (by simp) _⟩
    · unfold Box2
      rw [Below.heap_alloc _ _ _ (by simp)]; exact heap_alloc_new w _
    · have h := Row.made (w.alloc (.cells #[.bool s, .slice A l c] 36)) l (t := 111)
      simpa using h
  obtain ⟨W0, b, r, hW, hb, hr, hrb, hszW, bx0, row0, hb0⟩ := hex
  have HWB := Lib.hid hb
  have HRB := Lib.hid hrb
  have hlim0 : Lim W0 b A ms := (hb ▸ hlim).below hb0
  rw [hW, hr, hb]
  clear hW hr hrb hb hlim
  go_loopw [13] (fun t13 wr => ∃ (q : Nat) (os : List Nat), q ≤ l ∧ t13 = .int .i64 (q : Int) ∧ os.length = l ∧ os.take q = ms.take q ∧ Row wr r os ∧ Below r W0 wr) (fun t13 _ => l - (intOf t13).toNat)
  case atStart => exact ⟨0, _, by omega, rfl, by simp, by simp, row0, Below.refl _ _⟩
  case round =>
    obtain ⟨q, os, hq, rfl, ho, htk, hrow, hbel⟩ := hrel
    have HO := Lib.hid ho
    have HT := Lib.hid htk
    clear ho htk
    have bx := bx0.below hbel (by have := HRB.out; omega)
    have a0 := bx.cell0
    have a1 := bx.cell1
    by_cases hlt : q < l
    · obtain ⟨ad, hAd, hba, hcell⟩ := (hlim0.below (hbel.mono (by have := HRB.out; omega))).at_ (k := q) (by rw [← HLL.out]; exact hlt)
      subst hAd
      have HS2 := Lib.hid (take_copy (by rw [HO.out, HLL.out]) (by rw [← HLL.out]; exact hlt) HT.out)
      obtain ⟨x, hx⟩ : ∃ x, ms.getD q 0 = x := ⟨_, rfl⟩
      have hxs : x < W64 := hx ▸ hlim0.small.getD q
      rw [hx] at hcell HS2
      have hcg := hrow.cell (k := q) (by rw [HO.out]; omega)
      have hfg := hrow.free q
      have hset := hrow.set (k := q) (x := x) (by rw [HO.out]; omega) hxs
      have hbi' := hbel.setCell (p := ⟨r, q, none⟩) (Nat.le_refl _) (.int .u64 (x : Int))
      have HLn := Lib.hid (show (os.set q x).length = l by rw [List.length_set, HO.out])
      have hltI : (q : Int) < (l : Int) := by omega
      clear hx hxs
      go_wp2_with fail
      exact ⟨⟨q + 1, os.set q x, by omega, by go_num, HLn.out, HS2.out, hset, hbi'⟩, by simp [intOf]; omega⟩
    · obtain rfl : q = l := by omega
      have hos : os = ms := by
        have h2 := HT.out
        rwa [List.take_of_length_le (l := os) (by rw [HO.out]; exact Nat.le_refl _), List.take_of_length_le (l := ms) (by rw [← HLL.out]; exact Nat.le_refl _)] at h2
      subst hos
      have HROW := Lib.hid hrow
      have HBEL := Lib.hid hbel
      have hsz2 := hbel.size
      have HBX := Lib.hid bx
      clear hlt hrow hbel
      go_wp2_with fail
      obtain ⟨gn, hgn⟩ : ∃ gn, wr.heap.size = gn := ⟨_, rfl⟩
      have HGN := Lib.hid hgn
      have hf := IntAt.fresh wr
      have hba : Below wr.heap.size wr (wr.alloc (.cells #[.bool false, .slice none 0 0] 84)) := (Below.refl _ _).alloc (Nat.le_refl _) _
      have hrow1 := HROW.out.alloc (.cells #[.bool false, .slice none 0 0] 84)
      have bx1 := HBX.out.below hba HBX.out.lt
      rw [hgn] at hf ⊢
      have HBA := Lib.hid hba
      clear hgn hba
      generalize wr.alloc (.cells #[.bool false, .slice none 0 0] 84) = W1 at hf hrow1 bx1 HBA ⊢
      have HLQ := HLL.out
      rw [HLQ]
      refine (int_setBits gn 0 (some ⟨r, 0, none⟩) os.length os W1 hf (hrow1.lim hrow1.lt) (by have := HLN.out; omega)).mono ?_
      rintro e w2 ⟨rfl, hz2, he2⟩
      rw [HVM.out] at hz2
      have hbl := HBX.out.lt
      have bx2 : Box2 w2 b (.bool s) (.slice A q c) := by
        unfold Box2
        rw [he2.block b bx1.lt (by have := HGN.out; show ¬ b = gn; omega)]
        exact bx1
      have hb12 : Below wr.heap.size wr w2 := (Ext.hidden (Ext.of_below HBA.out) he2 (by rw [HGN.out]; exact Nat.le_refl _)).below
      have hbF : Below b w w2 := (hb0.trans (HBEL.out.mono (by have := HRB.out; omega))).trans (hb12.mono (by omega))
      have HBF := Lib.hid hbF
      have HGB := Lib.hid (show b ≤ gn by have := HGN.out; omega)
      have a0 := bx2.cell0
      have a1 := bx2.cell1
      clear hbF hb12 bx1 hrow1 hf he2 bx
      cases s with
      | false =>
        have HZ := Lib.hid (show ((z.natAbs : Nat) : Int) = z by rw [← HSG.out, HS.out, signed_natAbs]; rfl)
        go_wp2_with fail
        go_ret
        exact ⟨gn, rfl, by rw [HWB.out]; exact HGB.out, by rw [← HZ.out]; exact hz2, by rw [HWB.out]; exact HBF.out⟩
      | true =>
        have HZ := Lib.hid (show -((z.natAbs : Nat) : Int) = z by
          have h := HSG.out
          rw [HS.out] at h
          exact h)
        have HLE := Lib.hid (show (limbs ((z.natAbs : Nat) : Int).natAbs).length ≤ 1099511627776 by
          rw [Int.natAbs_natCast, ← HVM.out]
          exact Nat.le_trans (limbs_val_le hlim0.small) (by have := HLN.out; omega))
        go_wp2_with fail
        refine (int_neg gn gn _ _ w2 hz2 hz2 HLE.out).mono ?_
        rintro e w3 ⟨rfl, hz3, he3⟩
        go_wp2_with fail
        go_ret
        exact ⟨gn, rfl, by rw [HWB.out]; exact HGB.out, by rw [← HZ.out]; exact hz3, (Ext.hidden (Ext.of_below (show Below w.heap.size w w2 by rw [HWB.out]; exact HBF.out)) he3 (by rw [HWB.out]; exact HGB.out)).below⟩
set_option maxHeartbeats 1000000 in
set_option maxRecDepth 100000 in
theorem root_told (g : Nat) (z : Int) (w : World) (hz : IntAt w g z) (hl : (limbs z.natAbs).length ≤ 549755813888) :
    Calls Try.prog 73 #[.pointer (some ⟨g, 0, none⟩)] w fun e w' => ∃ v, e = .returned v ∧ RawAt w' w.heap.size v (rawOf z) ∧ Below w.heap.size w w' := by
  have HL := Lib.hid hl
  clear hl
  go_enter Try.func73, Try.ntmps73
  go_wp2_with fail
  obtain ⟨W0, X, hW, hX, bx, hbw, hsz⟩ := box_new w (.bool false) (.slice none 0 0)
  have HX := Lib.hid hX
  have hz0 := hz.below (hX ▸ hbw)
  rw [hW, hX]
  clear hW hX
  refine (int_sign g z W0 hz0 (by have := HL.out; omega)).mono ?_
  rintro e w1 ⟨rfl, rfl⟩
  have d0 := bx.cell0
  have d1 := bx.cell1
  have fr := bx.free
  have HSB := Lib.hid (show decide (z.sign < 0) = decide (z < 0) by rw [decide_eq_decide]; exact Int.sign_neg_iff)
  obtain ⟨sg, hsg⟩ : ∃ sg, z.sign = sg := ⟨_, rfl⟩
  rw [hsg] at HSB ⊢
  clear hsg
  obtain ⟨b, hb⟩ : ∃ b, decide (sg < 0) = b := ⟨_, rfl⟩
  rw [hb] at HSB
  go_wp2_with fail
  obtain ⟨W1, Y, hW1, hY, by_, hbw1, hsz1⟩ := box_new W0 (.bool b) (.slice none 0 0)
  rw [hW1]
  have hYX : W0.heap.size = X + 1 := hsz
  have HY := Lib.hid (show Y = X + 1 by omega)
  rw [show X + 1 = Y by omega]
  have hb01 : Below W0.heap.size W0 W1 := by rw [hY]; exact hbw1
  have hz1 := hz0.below hb01
  have bx1 := bx.below hb01 bx.lt
  have HB1 := Lib.hid (show Below X w W1 from hbw.trans (hbw1.mono (by omega)))
  clear hW1 hY hb hbw hbw1 hb01 bx d0 d1 fr hYX hsz hz0 hz
  refine (int_bits g z W1 hz1 (by have := HL.out; omega)).mono ?_
  rintro e w2 ⟨A2, rfl, hlim2, hb2⟩
  obtain ⟨ms, hms⟩ : ∃ ms, limbs z.natAbs = ms := ⟨_, rfl⟩
  have hZl := HL.out
  rw [hms] at hlim2 hZl ⊢
  have HMS := Lib.hid hms
  clear hms
  have hmI2 : (ms.length : Int) ≤ 549755813888 := by omega
  have hszY := hsz1
  have bx2 := bx1.below hb2 bx1.lt
  have by2 := by_.below hb2 by_.lt
  have HBX := Lib.hid bx2
  have HNN := Lib.hid by2.nums
  have hs2 := hb2.size
  have HB2 := Lib.hid (HB1.out.trans (hb2.mono (by have := HY.out; omega)))
  clear hZl hb2 bx1 hz1 by_
  go_wp2_with fail
  go_loopw [13] (fun t13 wr => ∃ (q : Nat) (v : Value), q ≤ ms.length ∧ t13 = .int .i64 (q : Int) ∧ Own wr w2.heap.size v (ms.take q) ∧ Box2 wr Y (.bool b) v ∧ Ext (· = Y) w2 wr) (fun t13 _ => ms.length - (intOf t13).toNat)
  case atStart => exact ⟨0, _, by omega, rfl, by rw [List.take_zero]; exact Own.nil _ _, by2, Ext.refl _ _ (fun j hj _ => by subst hj; exact HNN.out)⟩
  case round =>
    clear by2 bx2
    obtain ⟨q, v, hq, rfl, hown, hbx, hext⟩ := hrel
    obtain ⟨Av, lv, cv, rfl⟩ := hown.slice
    have y0 := hbx.cell0
    have y1 := hbx.cell1
    by_cases hqm : q < ms.length
    · obtain ⟨ad, rfl, hbA, hcA⟩ := ((hlim2.ext (Nat.le_refl _) hext)).at_ hqm
      obtain ⟨x, hx⟩ : ∃ x, ms.getD q 0 = x := ⟨_, rfl⟩
      have hxs : x < W64 := hx ▸ hlim2.small.getD q
      rw [hx] at hcA
      have HLE := Lib.hid (show (ms.take q).length + 1 ≤ 17592186044416 by rw [List.length_take]; omega)
      have HTS := Lib.hid (show ms.take (q + 1) = ms.take q ++ [x] by rw [List.take_succ_eq_append_getElem hqm, ← hx]; simp [hqm])
      have HYL := Lib.hid hbx.lt
      clear hx
      go_wp2_with (at_builtin; refine append_one (w0 := wr) w2.heap.size rfl _ _ rfl (.slice Av lv cv) (ms.take q) x (by rfl) (by rfl) hxs hown (Below.refl _ _) hext.size HLE.out ?_)
      intro v1 w3 hown1 hb3 _
      obtain ⟨A1, l1, c1, rfl⟩ := hown1.slice
      have hY2 : Y < w2.heap.size := by omega
      have hbx3 := hbx.below hb3 hY2
      have z1 := hbx3.cell1
      have zf := hbx3.free
      have hown4 := hown1.far (p := ⟨Y, 1, none⟩) (x := .slice A1 l1 c1) (fun g hg => by have := (hown1.own.lt g hg).1; show ¬ g = Y; omega)
      rw [← HTS.out] at hown4
      have hbx4 := hbx3.store1 (b := .slice A1 l1 c1)
      have hext4 : Ext (· = Y) w2 (w3.setCell ⟨Y, 1, none⟩ (.slice A1 l1 c1)) := by
        refine ⟨hb3.os.trans hext.os, hb3.tape.trans hext.tape, hb3.output.trans hext.output, by simpa using Nat.le_trans hext.size hb3.size, fun j hj hne => ?_, fun j hj _ => by subst hj; exact HNN.out⟩
        rw [Below.heap_setCell _ _ _ j (by simpa using hne), hb3.block j hj, hext.block j hj hne]
      clear y0 y1
      go_wp2_with fail
      exact ⟨⟨q + 1, _, by omega, by go_num, hown4, hbx4, hext4⟩, by simp [intOf]; omega⟩
    · obtain rfl : q = ms.length := by omega
      rw [List.take_length] at hown
      have HOWN := Lib.hid hown
      have hXY : X ≠ Y := by have := HY.out; omega
      have bxr : Box2 wr X (.bool false) (.slice none 0 0) := by
        unfold Box2
        rw [hext.block X (by have := HY.out; omega) (by show ¬ X = Y; exact hXY)]
        exact HBX.out
      have d0 := bxr.cell0
      have d1 := bxr.cell1
      have fr := bxr.free
      have HBR := Lib.hid (show Below X w wr from (Ext.hidden (Ext.of_below (show Below w.heap.size w w2 by rw [HX.out]; exact HB2.out)) hext (by rw [HX.out]; have := HY.out; omega)).below |> fun h => by rw [HX.out] at h; exact h)
      have HYX := Lib.hid (show X < w2.heap.size by have := HY.out; omega)
      clear hown hqm
      go_wp2_with fail
      refine bodyPost_ret (results_cell_row rfl _ _ X 36 #[.bool b, (.slice Av lv cv)] (0, 0) _ (by rfl) bxr.store Try.underlying36 rfl (by kernel_rfl)) rfl ?_
      have hraw : RawAt wr w2.heap.size (.agg #[.bool b, .slice Av lv cv]) (rawOf z) := by
        obtain ⟨A', c', hv, hc', hlim', _⟩ := HOWN.out.form
        injection hv with h1 h2 h3
        subst h1 h2 h3
        unfold rawOf
        rw [HMS.out, HSB.out]
        exact ⟨_, _, _, rfl, rfl, hc', hlim', HOWN.out.fresh⟩
      exact ⟨_, rfl, (hraw.ext (ext_store2 bxr.nums) (fun i hi => by subst hi; exact HYX.out)).since (base' := w.heap.size) (by rw [HX.out]; have := HYX.out; omega), by rw [HX.out]; exact store2_below HBR.out (Nat.le_refl _)⟩
set_option maxRecDepth 100000 in
theorem root_power (g n : Nat) (x : Int) (w : World) (hx : IntAt w g x) (hl : (limbs (x ^ n).natAbs).length ≤ 137438953472) (hlx : (limbs x.natAbs).length ≤ 137438953472) (hn : (n : Int) < 9223372036854775808) :
    Calls Try.prog 84 #[.pointer (some ⟨g, 0, none⟩), .int .i64 (n : Int)] w fun e w' => ∃ g', e = .returned (.pointer (some ⟨g', 0, none⟩)) ∧ w.heap.size ≤ g' ∧ IntAt w' g' (x ^ n) ∧ Below w.heap.size w w' := by
  have HL := Lib.hid hl
  have HLX := Lib.hid hlx
  have HN := Lib.hid hn
  clear hl hlx hn
  go_enter Try.func84, Try.ntmps84
  go_wp2_with fail
  have ha := Ext.alloc w (.cells #[.bool false, .slice none 0 0] 84)
  have hf := IntAt.fresh w
  have hsz : (w.alloc (.cells #[.bool false, .slice none 0 0] 84)).heap.size = w.heap.size + 1 := by simp
  refine (big_newInt (n : Int) _ (by omega) HN.out).mono ?_
  rintro e w1 ⟨rfl, h1, he1⟩
  rw [hsz] at h1 ⊢
  have hE : Ext Nix w w1 := ha.later (he1.mono (fun _ _ h => h) (fun _ h => h.elim))
  have hf1 := hf.ext he1 (fun h => h)
  have hx1 := hx.ext hE (fun h => h)
  clear ha hf hsz he1
  go_wp2_with fail
  refine (int_exp w.heap.size g (w.heap.size + 1) n 0 x w1 hf1 hx1 h1 HL.out HLX.out (by rw [W64_eq]; have := HN.out; omega)).mono ?_
  rintro e w2 ⟨rfl, hz, he2⟩
  go_wp2_with fail
  go_ret
  exact ⟨w.heap.size, rfl, Nat.le_refl _, hz, (hE.hidden he2 (Nat.le_refl _)).below⟩
end Go.Proofs.Ytmnfokapdipcdaa
