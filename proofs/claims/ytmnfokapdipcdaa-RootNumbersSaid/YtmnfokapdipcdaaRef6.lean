import Derived.Test.YtmnfokapdipcdaaRef4
/- The package rosetteref00: Times, Plus, Less. -/
namespace Go.Proofs.Ytmnfokapdipcdaa
open Go.RowKit Go.Deep
theorem Box3.noNum {w : World} {g : Nat} {x y z : Value} {t : TypeId} (h : Box3 w g t x y z) (hx : ∀ k : Int, x ≠ .int .u64 k) (hy : ∀ k : Int, y ≠ .int .u64 k) (hz : ∀ k : Int, z ≠ .int .u64 k) : NoNum w g := by
  intro p hp n
  obtain ⟨pb, off, m⟩ := p
  obtain rfl : pb = g := hp
  unfold Box3 at h
  unfold World.cell?
  simp only [h]
  split
  · simp
  · rcases off with _ | _ | _ | off
    · simpa using hx n
    · simpa using hy n
    · simpa using hz n
    · simp
theorem ext_store3 {w : World} {g : Nat} {a b c : Value} (h : NoNum w g) : Ext (· = g) w (((w.setCell ⟨g, 0, none⟩ a).setCell ⟨g, 1, none⟩ b).setCell ⟨g, 2, none⟩ c) := by
  refine ⟨rfl, rfl, rfl, by simp, fun i _ hi => ?_, fun i hi _ => by subst hi; exact h⟩
  rw [Below.heap_setCell _ _ _ i (by simpa using hi), Below.heap_setCell _ _ _ i (by simpa using hi), Below.heap_setCell _ _ _ i (by simpa using hi)]
theorem NumAt.store3 {w : World} {v : Value} {n : Int} {g : Nat} {x y z a b c : Value} (h : NumAt w v n) (hb : Box3 w g 79 x y z) (hx : ∀ k : Int, x ≠ .int .u64 k) (hy : ∀ k : Int, y ≠ .int .u64 k) (hz : ∀ k : Int, z ≠ .int .u64 k) :
    NumAt (((w.setCell ⟨g, 0, none⟩ a).setCell ⟨g, 1, none⟩ b).setCell ⟨g, 2, none⟩ c) v n := by
  obtain ⟨b', A, l, c', e, hl, hc, hlim, hs, ho⟩ := h
  have he := ext_store3 (a := a) (b := b) (c := c) (hb.noNum hx hy hz)
  exact ⟨b', A, l, c', e, hl, hc, (hlim.ext (Nat.le_refl _) he).more he.size, hs, ho.store3 hb⟩
theorem boxes3 (w : World) (x0 x1 x2 y0 y1 y2 r0 r1 r2 : Value) (t : TypeId) : ∃ (W : World) (g h r : Nat), ((w.alloc (.cells #[x0, x1, x2] t)).alloc (.cells #[y0, y1, y2] t)).alloc (.cells #[r0, r1, r2] t) = W ∧ w.heap.size = g ∧ w.heap.size + 1 = h ∧ w.heap.size + 1 + 1 = r ∧
    Box3 W g t x0 x1 x2 ∧ Box3 W h t y0 y1 y2 ∧ Box3 W r t r0 r1 r2 ∧ Below w.heap.size w W := by
  refine ⟨_, _, _, _, rfl, rfl, rfl, rfl, ?_, ?_, ?_, (((Below.refl _ w).alloc (Nat.le_refl _) _).alloc (by simp) _).alloc (by simp; omega) _⟩
  · unfold Box3
    rw [Below.heap_alloc _ _ _ (by simp; omega), Below.heap_alloc _ _ _ (by simp)]; exact heap_alloc_new w _
  · unfold Box3
    rw [Below.heap_alloc _ _ _ (by simp)]
    have h := heap_alloc_new (w.alloc (.cells #[x0, x1, x2] t)) (.cells #[y0, y1, y2] t)
    simpa using h
  · unfold Box3
    have h := heap_alloc_new ((w.alloc (.cells #[x0, x1, x2] t)).alloc (.cells #[y0, y1, y2] t)) (.cells #[r0, r1, r2] t)
    simpa using h
theorem signed_mul' (a b : Bool) (m n : Nat) : signed (a != b) (m * n) = signed a m * signed b n := by
  cases a <;> cases b <;> simp [signed, Int.natCast_mul, Int.neg_mul, Int.mul_neg]
set_option maxRecDepth 100000 in
theorem num_times (u v : Value) (x y : Int) (w : World) (hx : NumAt w u x) (hy : NumAt w v y) (hl : (limbs x.natAbs).length ≤ 137438953472) (hl2 : (limbs y.natAbs).length ≤ 137438953472) :
    Calls Try.prog 68 #[u, v] w fun e w' => ∃ v', e = .returned v' ∧ NumAt w' v' (x * y) ∧ Below w.heap.size w w' := by
  obtain ⟨b, A, l, c, rfl, hlen, hc, hlim, hs, hown⟩ := hx
  obtain ⟨b2, A2, l2, c2, rfl, hlen2, hc2, hlim2, hs2, hown2⟩ := hy
  have HLEN := Lib.hid hlen
  have HLEN2 := Lib.hid hlen2
  have HL := Lib.hid (show l ≤ 137438953472 ∧ l2 ≤ 137438953472 from ⟨by rw [hlen]; exact hl, by rw [hlen2]; exact hl2⟩)
  have HS := Lib.hid (show x * y = signed (b != b2) (x.natAbs * y.natAbs) by rw [signed_mul', hs, hs2])
  clear hlen hc hs hlen2 hc2 hs2 hl hl2
  go_enter Try.func68, Try.ntmps68
  go_upto_region 1 with (fail)
  obtain ⟨W0, g, h, r, eW, eg, eh, er, bg, bh, br, hbw⟩ := boxes3 w (.bool b) (.slice A l c) (.int .i64 0) (.bool b2) (.slice A2 l2 c2) (.int .i64 0) (.bool false) (.slice none 0 0) (.int .i64 0) 79
  rw [eW, er, eh, eg]
  have HG := Lib.hid (show w.heap.size ≤ r by omega)
  clear eW er eh eg
  have a0 := later_cell bg.cell0
  have a1 := later_cell bg.cell1
  have a2 := later_cell bg.cell2
  have q0 := later_cell bh.cell0
  have q1 := later_cell bh.cell1
  have q2 := later_cell bh.cell2
  have hlimx := (hlim.below hbw).more hbw.size
  have hlimy := (hlim2.below hbw).more hbw.size
  go_wp2_with fail
  refine wp_region_stages (fun w' => ∃ δ : Later Nix W0, w' = δ.world) [(false, 0), (false, 1), (false, 2), (false, 3), (false, 4), (false, 5), (false, 6), (false, 7), (false, 8), (false, 10), (false, 11), (false, 12), (false, 13), (false, 14), (true, 9)] 15 [.reads [_, _, _, _, _, _, _, _, _, _, _, _, _, _], .loud _] [_, _] (by kernel_rfl) (by kernel_rfl) rfl rfl ?_ ?_
  · exact ⟨⟨_, nix_drawn W0⟩, rfl⟩
  refine wpStages_reads ?_
  repeat (go_big_quiet_step (fail))
  refine wpQuiet_nil ?_
  refine wpStages_loud rfl ?_
  intro K hK
  go_big_op
  refine (ref_mul A A2 l l2 c c2 (limbs x.natAbs) (limbs y.natAbs) (W0.drewN 1) (hlimx.drewN 1) (hlimy.drewN 1) HLEN.out HLEN2.out HL.out.1 HL.out.2).mono ?_
  rintro e w1 ⟨v1, rfl, ho1, hb1⟩
  rw [val_limbs, val_limbs] at ho1
  have he1 : Ext Nix W0 w1 := (nix_drawn W0).later (Ext.of_below hb1)
  refine hK _ _ ⟨⟨w1, he1⟩, rfl⟩ ?_
  clear hK K
  refine wpStages_nil ?_
  have hbx1 := br.below he1.below br.lt
  have d0 := hbx1.cell0
  have d1 := hbx1.cell1
  have d2 := hbx1.cell2
  have f0 := hbx1.free
  obtain ⟨A1, c3, rfl, hc3, hlim3, _⟩ := ho1.form
  obtain ⟨m, hm⟩ : ∃ m, (limbs (x.natAbs * y.natAbs)).length = m := ⟨_, rfl⟩
  have HM := Lib.hid hm
  have HO := Lib.hid ho1
  rw [hm] at hc3 ⊢
  have HC3 := Lib.hid hc3
  clear hm ho1 hc3 a0 a1 a2 q0 q1 q2
  go_wp2_with fail
  have hst := hbx1.store (a := .bool (b != b2)) (b := .slice A1 m c3) (c := .int .i64 0)
  refine bodyPost_ret (results_cell_row rfl _ _ r 79 #[.bool (b != b2), (.slice A1 m c3), .int .i64 0] (0, 0) _ (by rfl) hst Try.underlying79 rfl (by kernel_rfl)) rfl ?_
  have hbF : Below w.heap.size w w1 := hbw.trans (he1.below.mono hbw.size)
  have hbE := store3_below (a := .bool (b != b2)) (b := .slice A1 m c3) (c := .int .i64 0) hbF HG.out
  refine ⟨_, rfl, ?_, hbE⟩
  have hownR := HO.out.store3 (a := .bool (b != b2)) (b := .slice A1 m c3) (c := .int .i64 0) hbx1
  obtain ⟨A9, c9, e9, _, hlim9, _⟩ := hownR.form
  injection e9 with e91 e92 e93
  subst e91
  rw [HS.out]
  exact NumAt.of HM.out.symm HC3.out hlim9 (by have h := hownR.mono (Nat.zero_le _); rwa [HM.out] at h)
theorem signed_add_same (b : Bool) (m n : Nat) : signed b m + signed b n = signed b (m + n) := by
  cases b
  · show (m : Int) + (n : Int) = ((m + n : Nat) : Int); omega
  · show -(m : Int) + -(n : Int) = -((m + n : Nat) : Int); omega
theorem signed_add_ge {b b2 : Bool} {m n : Nat} (hb : (b == b2) = false) (h : n ≤ m) : signed b m + signed b2 n = signed b (m - n) := by
  cases b <;> cases b2
  · cases hb
  · show (m : Int) + -(n : Int) = ((m - n : Nat) : Int); omega
  · show -(m : Int) + (n : Int) = -((m - n : Nat) : Int); omega
  · cases hb
theorem signed_add_lt {b b2 : Bool} {m n : Nat} (hb : (b == b2) = false) (h : m ≤ n) : signed b m + signed b2 n = signed b2 (n - m) := by
  cases b <;> cases b2
  · cases hb
  · show (m : Int) + -(n : Int) = -((n - m : Nat) : Int); omega
  · show -(m : Int) + (n : Int) = ((n - m : Nat) : Int); omega
  · cases hb
set_option maxHeartbeats 1000000 in
set_option maxRecDepth 100000 in
theorem num_plus (u v : Value) (x y : Int) (w : World) (hx : NumAt w u x) (hy : NumAt w v y) (hl : (limbs x.natAbs).length ≤ 68719476736) (hl2 : (limbs y.natAbs).length ≤ 68719476736) :
    Calls Try.prog 117 #[u, v] w fun e w' => ∃ v', e = .returned v' ∧ NumAt w' v' (x + y) ∧ Below w.heap.size w w' := by
  have NX := hx
  have NY := hy
  obtain ⟨b, A, l, c, rfl, hlen, hc, hlim, hs, hown⟩ := hx
  obtain ⟨b2, A2, l2, c2, rfl, hlen2, hc2, hlim2, hs2, hown2⟩ := hy
  have HLEN := Lib.hid hlen
  have HLEN2 := Lib.hid hlen2
  have HC := Lib.hid hc
  have HC2 := Lib.hid hc2
  have HL := Lib.hid (show l ≤ 68719476736 ∧ l2 ≤ 68719476736 from ⟨by rw [hlen]; exact hl, by rw [hlen2]; exact hl2⟩)
  have HS := Lib.hid hs
  have HS2 := Lib.hid hs2
  clear hlen hc hs hlen2 hc2 hs2 hl hl2
  go_enter Try.func117, Try.ntmps117
  go_upto_region 1 with (fail)
  obtain ⟨W0, g, h, r, eW, eg, eh, er, bg, bh, br, hbw⟩ := boxes3 w (.bool b) (.slice A l c) (.int .i64 0) (.bool b2) (.slice A2 l2 c2) (.int .i64 0) (.bool false) (.slice none 0 0) (.int .i64 0) 79
  rw [eW, er, eh, eg]
  have HG := Lib.hid (show w.heap.size ≤ r by omega)
  clear eW er eh eg
  have a0 := bg.cell0
  have a1 := bg.cell1
  have a2 := bg.cell2
  go_wp2_with fail
  refine (num_zero _ x W0 (NX.below hbw) (by have := HL.out; have := HLEN.out; omega)).mono ?_
  rintro e w1 ⟨rfl, hb1⟩
  have hbw1 : Below w.heap.size w w1 := hbw.trans (hb1.mono hbw.size)
  have bg1 := bg.below hb1 bg.lt
  have bh1 := bh.below hb1 bh.lt
  have br1 := br.below hb1 br.lt
  have a0 := bg1.cell0
  have a1 := bg1.cell1
  have a2 := bg1.cell2
  have q0 := bh1.cell0
  have q1 := bh1.cell1
  have q2 := bh1.cell2
  by_cases hx0 : x = 0
  · rw [decide_eq_true hx0]
    have HXY := Lib.hid (show x + y = y by rw [hx0]; omega)
    clear hx0
    have d0 := br1.cell0
    have d1 := br1.cell1
    have d2 := br1.cell2
    have f0 := br1.free
    go_wp2_with fail
    have hst := br1.store (a := .bool b2) (b := .slice A2 l2 c2) (c := .int .i64 0)
    refine bodyPost_ret (results_cell_row rfl _ _ r 79 #[.bool b2, (.slice A2 l2 c2), .int .i64 0] (0, 0) _ (by rfl) hst Try.underlying79 rfl (by kernel_rfl)) rfl ?_
    have hbE := store3_below (a := .bool b2) (b := .slice A2 l2 c2) (c := .int .i64 0) hbw1 HG.out
    rw [HXY.out]
    exact ⟨_, rfl, ⟨b2, A2, l2, c2, rfl, HLEN2.out, HC2.out, (hlim2.below hbE).more hbE.size, HS2.out, hown2.below hbE⟩, hbE⟩
  · rw [decide_eq_false hx0]
    clear hx0
    go_wp2_with fail
    refine (num_zero _ y w1 (NY.below hbw1) (by have := HL.out; have := HLEN2.out; omega)).mono ?_
    rintro e w2 ⟨rfl, hb2⟩
    have hbw2 : Below w.heap.size w w2 := hbw1.trans (hb2.mono hbw1.size)
    have bg2 := bg1.below hb2 bg1.lt
    have bh2 := bh1.below hb2 bh1.lt
    have br2 := br1.below hb2 br1.lt
    have a0 := bg2.cell0
    have a1 := bg2.cell1
    have a2 := bg2.cell2
    have q0 := bh2.cell0
    have q1 := bh2.cell1
    have q2 := bh2.cell2
    by_cases hy0 : y = 0
    · rw [decide_eq_true hy0]
      have HXY := Lib.hid (show x + y = x by rw [hy0]; omega)
      clear hy0
      have d0 := br2.cell0
      have d1 := br2.cell1
      have d2 := br2.cell2
      have f0 := br2.free
      go_wp2_with fail
      have hst := br2.store (a := .bool b) (b := .slice A l c) (c := .int .i64 0)
      refine bodyPost_ret (results_cell_row rfl _ _ r 79 #[.bool b, (.slice A l c), .int .i64 0] (0, 0) _ (by rfl) hst Try.underlying79 rfl (by kernel_rfl)) rfl ?_
      have hbE := store3_below (a := .bool b) (b := .slice A l c) (c := .int .i64 0) hbw2 HG.out
      rw [HXY.out]
      exact ⟨_, rfl, ⟨b, A, l, c, rfl, HLEN.out, HC.out, (hlim.below hbE).more hbE.size, HS.out, hown.below hbE⟩, hbE⟩
    · rw [decide_eq_false hy0]
      clear hy0
      have r0 := later_cell bg2.cell0
      have r1 := later_cell bg2.cell1
      have r2 := later_cell bg2.cell2
      have s0 := later_cell bh2.cell0
      have s1 := later_cell bh2.cell1
      have s2 := later_cell bh2.cell2
      have hlimy2 := (hlim2.below hbw2).more hbw2.size
      go_wp2_with fail
      refine wp_region_stages (fun w' => ∃ δ : Later Nix w2, w' = δ.world) [(false, 0), (false, 1), (false, 2), (false, 3), (false, 4), (false, 5), (false, 6), (false, 7), (false, 8), (true, 9)] 10 [.reads [_, _, _, _, _, _, _, _, _], .loud _] [_, _] (by kernel_rfl) (by kernel_rfl) rfl rfl ?_ ?_
      · exact ⟨⟨_, nix_drawn w2⟩, rfl⟩
      refine wpStages_reads ?_
      repeat (go_big_quiet_step (fail))
      refine wpQuiet_nil ?_
      refine wpStages_loud rfl ?_
      intro K hK
      go_big_op
      have hup := ref_up A2 l2 c2 0 (limbs y.natAbs) (w2.drewN 1) (hlimy2.drewN 1) HLEN2.out (by have := HL.out; omega) (by omega)
      rw [val_limbs, Nat.pow_zero, Nat.mul_one, show ((0 : Nat) : Int) = 0 from rfl] at hup
      refine hup.mono ?_
      rintro e w3 ⟨v3, rfl, ho3, hb3⟩
      have he3 : Ext Nix w2 w3 := (nix_drawn w2).later (Ext.of_below hb3)
      refine hK _ _ ⟨⟨w3, he3⟩, rfl⟩ ?_
      clear hK K r0 r1 r2 s0 s1 s2 a0 a1 a2 q0 q1 q2
      refine wpStages_nil ?_
      have hb23 := he3.below
      have hbw3 : Below w.heap.size w w3 := hbw2.trans (hb23.mono hbw2.size)
      have bg3 := bg2.below hb23 bg2.lt
      have bh3 := bh2.below hb23 bh2.lt
      have br3 := br2.below hb23 br2.lt
      have hlimx3 := (hlim.below hbw3).more hbw3.size
      have a0 := bg3.cell0
      have q0 := bh3.cell0
      obtain ⟨A6, c6, rfl, hc6, hlimy3, _⟩ := ho3.form
      obtain ⟨l6, hl6⟩ : ∃ l6, (limbs y.natAbs).length = l6 := ⟨_, rfl⟩
      have HL6 := Lib.hid hl6.symm
      have HB6 := Lib.hid (show l6 ≤ 68719476736 by have := HL.out; have := HLEN2.out; omega)
      rw [hl6] at hc6 ⊢
      have HC6 := Lib.hid hc6
      clear hl6 hc6 ho3
      by_cases hbb : b = b2
      · subst hbb
        have tb : (b == b) = true := by cases b <;> rfl
        have HSS := Lib.hid (show x + y = signed b (x.natAbs + y.natAbs) by rw [← signed_add_same, HS.out, HS2.out])
        go_wp2_with fail
        have r0 := later_cell bg3.cell0
        have r2 := later_cell bg3.cell2
        refine wp_region_stages (fun w' => ∃ δ : Later Nix w3, w' = δ.world) [(false, 0), (false, 1), (false, 2), (false, 3), (false, 5), (false, 6), (true, 4)] 7 [.reads [_, _, _, _, _, _], .loud _] [_, _] (by kernel_rfl) (by kernel_rfl) rfl rfl ?_ ?_
        · exact ⟨⟨_, nix_drawn w3⟩, rfl⟩
        refine wpStages_reads ?_
        repeat (go_big_quiet_step (fail))
        refine wpQuiet_nil ?_
        refine wpStages_loud rfl ?_
        intro K hK
        go_big_op
        refine (ref_add A A6 l l6 c c6 (limbs x.natAbs) (limbs y.natAbs) (w3.drewN 1) (hlimx3.drewN 1) (hlimy3.drewN 1) HLEN.out HL6.out (by have := HL.out; omega) (by have := HB6.out; omega)).mono ?_
        rintro e w4 ⟨v4, rfl, ho4, hb4⟩
        rw [val_limbs, val_limbs] at ho4
        have he4 : Ext Nix w3 w4 := (nix_drawn w3).later (Ext.of_below hb4)
        have hbF : Below w.heap.size w w4 := hbw3.trans (he4.below.mono hbw3.size)
        have br4 := br3.below he4.below br3.lt
        refine hK _ _ ⟨⟨w4, he4⟩, rfl⟩ ?_
        clear hK K r0 r2
        refine wpStages_nil ?_
        have hbx1 := br4
        have d0 := hbx1.cell0
        have d1 := hbx1.cell1
        have d2 := hbx1.cell2
        have f0 := hbx1.free
        obtain ⟨A1, c3, rfl, hc3, hlim3, _⟩ := ho4.form
        obtain ⟨m, hm⟩ : ∃ m, (limbs (x.natAbs + y.natAbs)).length = m := ⟨_, rfl⟩
        have HM := Lib.hid hm
        have HO := Lib.hid ho4
        rw [hm] at hc3 ⊢
        have HC3 := Lib.hid hc3
        clear hm ho4 hc3
        go_wp2_with fail
        have hst := hbx1.store (a := .bool b) (b := .slice A1 m c3) (c := .int .i64 0)
        refine bodyPost_ret (results_cell_row rfl _ _ r 79 #[.bool b, (.slice A1 m c3), .int .i64 0] (0, 0) _ (by rfl) hst Try.underlying79 rfl (by kernel_rfl)) rfl ?_
        have hbE := store3_below (a := .bool b) (b := .slice A1 m c3) (c := .int .i64 0) hbF HG.out
        refine ⟨_, rfl, ?_, hbE⟩
        have hownR := HO.out.store3 (a := .bool b) (b := .slice A1 m c3) (c := .int .i64 0) hbx1
        obtain ⟨A9, c9, e9, _, hlim9, _⟩ := hownR.form
        injection e9 with e91 e92 e93
        subst e91
        rw [HSS.out]
        exact NumAt.of HM.out.symm HC3.out hlim9 (by have h := hownR.mono (Nat.zero_le _); rwa [HM.out] at h)
      · have tb : (b == b2) = false := beq_eq_false_iff_ne.2 hbb
        have HTB := Lib.hid tb
        clear hbb
        go_wp2_with fail
        refine (ref_cmp A A6 l l6 c c6 (limbs x.natAbs) (limbs y.natAbs) w3 hlimx3 hlimy3 HLEN.out HL6.out HC.out HC6.out (by have := HL.out; omega) (by have := HB6.out; omega)).mono ?_
        rintro e w4 ⟨rfl, hb34⟩
        rw [val_limbs, val_limbs]
        have hbw4 : Below w.heap.size w w4 := hbw3.trans (hb34.mono hbw3.size)
        have bg4 := bg3.below hb34 bg3.lt
        have bh4 := bh3.below hb34 bh3.lt
        have br4 := br3.below hb34 br3.lt
        have hlimx4 := (hlimx3.below hb34).more hb34.size
        have hlimy4 := (hlimy3.below hb34).more hb34.size
        have r0 := later_cell bg4.cell0
        have r2 := later_cell bg4.cell2
        have s0 := later_cell bh4.cell0
        by_cases hge : y.natAbs ≤ x.natAbs
        · have HSS := Lib.hid (show x + y = signed b (x.natAbs - y.natAbs) by rw [← signed_add_ge HTB.out hge, HS.out, HS2.out])
          have hcm : cmpN x.natAbs y.natAbs = 0 ∨ cmpN x.natAbs y.natAbs = 1 := by
            rcases Nat.lt_or_eq_of_le hge with h1 | h1
            · exact .inr (cmpN_gt h1)
            · exact .inl (cmpN_eq h1.symm)
          obtain ⟨cm, hcmE⟩ : ∃ cm, cmpN x.natAbs y.natAbs = cm := ⟨_, rfl⟩
          rw [hcmE] at hcm ⊢
          have hcm0 : 0 ≤ cm := by omega
          have HGE := Lib.hid hge
          clear hcm hcmE hge
          go_wp2_with fail
          refine wp_region_stages (fun w' => ∃ δ : Later Nix w4, w' = δ.world) [(false, 0), (false, 1), (false, 2), (false, 3), (false, 5), (false, 6), (true, 4)] 7 [.reads [_, _, _, _, _, _], .loud _] [_, _] (by kernel_rfl) (by kernel_rfl) rfl rfl ?_ ?_
          · exact ⟨⟨_, nix_drawn w4⟩, rfl⟩
          refine wpStages_reads ?_
          repeat (go_big_quiet_step (fail))
          refine wpQuiet_nil ?_
          refine wpStages_loud rfl ?_
          intro K hK
          go_big_op
          refine (ref_sub A A6 l l6 c c6 (limbs x.natAbs) (limbs y.natAbs) (w4.drewN 1) (hlimx4.drewN 1) (hlimy4.drewN 1) HLEN.out HL6.out (by have := HL.out; omega) (by have := HB6.out; omega) (by rw [val_limbs, val_limbs]; exact HGE.out)).mono ?_
          rintro e w5 ⟨v5, rfl, ho5, hb5⟩
          rw [val_limbs, val_limbs] at ho5
          have he5 : Ext Nix w4 w5 := (nix_drawn w4).later (Ext.of_below hb5)
          have hbF : Below w.heap.size w w5 := hbw4.trans (he5.below.mono hbw4.size)
          have br5 := br4.below he5.below br4.lt
          refine hK _ _ ⟨⟨w5, he5⟩, rfl⟩ ?_
          clear hK K r0 r2 s0
          refine wpStages_nil ?_
          have hbx1 := br5
          have d0 := hbx1.cell0
          have d1 := hbx1.cell1
          have d2 := hbx1.cell2
          have f0 := hbx1.free
          obtain ⟨A1, c3, rfl, hc3, hlim3, _⟩ := ho5.form
          obtain ⟨m, hm⟩ : ∃ m, (limbs (x.natAbs - y.natAbs)).length = m := ⟨_, rfl⟩
          have HM := Lib.hid hm
          have HO := Lib.hid ho5
          rw [hm] at hc3 ⊢
          have HC3 := Lib.hid hc3
          clear hm ho5 hc3
          go_wp2_with fail
          have hst := hbx1.store (a := .bool b) (b := .slice A1 m c3) (c := .int .i64 0)
          refine bodyPost_ret (results_cell_row rfl _ _ r 79 #[.bool b, (.slice A1 m c3), .int .i64 0] (0, 0) _ (by rfl) hst Try.underlying79 rfl (by kernel_rfl)) rfl ?_
          have hbE := store3_below (a := .bool b) (b := .slice A1 m c3) (c := .int .i64 0) hbF HG.out
          refine ⟨_, rfl, ?_, hbE⟩
          have hownR := HO.out.store3 (a := .bool b) (b := .slice A1 m c3) (c := .int .i64 0) hbx1
          obtain ⟨A9, c9, e9, _, hlim9, _⟩ := hownR.form
          injection e9 with e91 e92 e93
          subst e91
          rw [HSS.out]
          exact NumAt.of HM.out.symm HC3.out hlim9 (by have h := hownR.mono (Nat.zero_le _); rwa [HM.out] at h)
        · have HSS := Lib.hid (show x + y = signed b2 (y.natAbs - x.natAbs) by rw [← signed_add_lt HTB.out (by omega), HS.out, HS2.out])
          rw [cmpN_lt (by omega)]
          have HGE := Lib.hid (show x.natAbs ≤ y.natAbs by omega)
          clear hge
          go_wp2_with fail
          refine wp_region_stages (fun w' => ∃ δ : Later Nix w4, w' = δ.world) [(false, 0), (false, 1), (false, 2), (false, 3), (false, 5), (false, 6), (true, 4)] 7 [.reads [_, _, _, _, _, _], .loud _] [_, _] (by kernel_rfl) (by kernel_rfl) rfl rfl ?_ ?_
          · exact ⟨⟨_, nix_drawn w4⟩, rfl⟩
          refine wpStages_reads ?_
          repeat (go_big_quiet_step (fail))
          refine wpQuiet_nil ?_
          refine wpStages_loud rfl ?_
          intro K hK
          go_big_op
          refine (ref_sub A6 A l6 l c6 c (limbs y.natAbs) (limbs x.natAbs) (w4.drewN 1) (hlimy4.drewN 1) (hlimx4.drewN 1) HL6.out HLEN.out (by have := HB6.out; omega) (by have := HL.out; omega) (by rw [val_limbs, val_limbs]; exact HGE.out)).mono ?_
          rintro e w5 ⟨v5, rfl, ho5, hb5⟩
          rw [val_limbs, val_limbs] at ho5
          have he5 : Ext Nix w4 w5 := (nix_drawn w4).later (Ext.of_below hb5)
          have hbF : Below w.heap.size w w5 := hbw4.trans (he5.below.mono hbw4.size)
          have br5 := br4.below he5.below br4.lt
          refine hK _ _ ⟨⟨w5, he5⟩, rfl⟩ ?_
          clear hK K r0 r2 s0
          refine wpStages_nil ?_
          have hbx1 := br5
          have d0 := hbx1.cell0
          have d1 := hbx1.cell1
          have d2 := hbx1.cell2
          have f0 := hbx1.free
          obtain ⟨A1, c3, rfl, hc3, hlim3, _⟩ := ho5.form
          obtain ⟨m, hm⟩ : ∃ m, (limbs (y.natAbs - x.natAbs)).length = m := ⟨_, rfl⟩
          have HM := Lib.hid hm
          have HO := Lib.hid ho5
          rw [hm] at hc3 ⊢
          have HC3 := Lib.hid hc3
          clear hm ho5 hc3
          go_wp2_with fail
          have hst := hbx1.store (a := .bool b2) (b := .slice A1 m c3) (c := .int .i64 0)
          refine bodyPost_ret (results_cell_row rfl _ _ r 79 #[.bool b2, (.slice A1 m c3), .int .i64 0] (0, 0) _ (by rfl) hst Try.underlying79 rfl (by kernel_rfl)) rfl ?_
          have hbE := store3_below (a := .bool b2) (b := .slice A1 m c3) (c := .int .i64 0) hbF HG.out
          refine ⟨_, rfl, ?_, hbE⟩
          have hownR := HO.out.store3 (a := .bool b2) (b := .slice A1 m c3) (c := .int .i64 0) hbx1
          obtain ⟨A9, c9, e9, _, hlim9, _⟩ := hownR.form
          injection e9 with e91 e92 e93
          subst e91
          rw [HSS.out]
          exact NumAt.of HM.out.symm HC3.out hlim9 (by have h := hownR.mono (Nat.zero_le _); rwa [HM.out] at h)
set_option maxHeartbeats 400000 in
set_option maxRecDepth 100000 in
theorem num_less (u v : Value) (x y : Int) (w : World) (hx : NumAt w u x) (hy : NumAt w v y) (hl : (limbs x.natAbs).length ≤ 68719476736) (hl2 : (limbs y.natAbs).length ≤ 68719476736) :
    Calls Try.prog 69 #[u, v] w fun e w' => ∃ v', e = .returned v' ∧ NumAt w' v' (x - y) ∧ Below w.heap.size w w' := by
  have NX := hx
  have NY := hy
  obtain ⟨b, A, l, c, rfl, hlen, hc, hlim, hs, hown⟩ := hx
  obtain ⟨b2, A2, l2, c2, rfl, hlen2, hc2, hlim2, hs2, hown2⟩ := hy
  have HL := Lib.hid (And.intro hl hl2)
  clear hlen hc hs hlen2 hc2 hs2 hl hl2 hlim hlim2
  go_enter Try.func69, Try.ntmps69
  go_upto_region 1 with (fail)
  obtain ⟨W0, g, h, r, eW, eg, eh, er, bg, bh, br, hbw⟩ := boxes3 w (.bool b) (.slice A l c) (.int .i64 0) (.bool b2) (.slice A2 l2 c2) (.int .i64 0) (.bool false) (.slice none 0 0) (.int .i64 0) 79
  rw [eW, er, eh, eg]
  have HG := Lib.hid (show w.heap.size ≤ r by omega)
  clear eW er eh eg
  have a0 := later_cell bg.cell0
  have a1 := later_cell bg.cell1
  have a2 := later_cell bg.cell2
  have q0 := later_cell bh.cell0
  have q1 := later_cell bh.cell1
  have q2 := later_cell bh.cell2
  have NX0 := NX.below hbw
  have NY0 := NY.below hbw
  go_wp2_with fail
  refine wp_region_stages (fun w' => ∃ δ : Later Nix W0, w' = δ.world) [(false, 0), (false, 1), (true, 2)] 3 [.reads [_, _], .loud _] [_, _] (by kernel_rfl) (by kernel_rfl) rfl rfl ?_ ?_
  · exact ⟨⟨_, nix_drawn W0⟩, rfl⟩
  refine wpStages_reads ?_
  repeat (go_big_quiet_step (fail))
  refine wpQuiet_nil ?_
  refine wpStages_loud rfl ?_
  intro K hK
  go_big_op
  refine (num_minus _ y (W0.drewN 1) (NY0.below (below_drewN (Below.refl _ W0) 1))).mono ?_
  rintro e w1 ⟨v1, rfl, hm1, hb1⟩
  have he1 : Ext Nix W0 w1 := (nix_drawn W0).later (Ext.of_below hb1)
  refine hK _ _ ⟨⟨w1, he1⟩, rfl⟩ ?_
  clear hK K
  refine wpStages_nil ?_
  obtain ⟨b3, A3, l3, c3, rfl, hdum⟩ := id hm1
  clear hdum
  clear a0 a1 a2 q0 q1 q2
  go_wp2_with fail
  refine (num_plus _ _ x (-y) w1 (NX0.below he1.below) hm1 (by have := HL.out; omega) (by rw [Int.natAbs_neg]; have := HL.out; omega)).mono ?_
  rintro e w2 ⟨v2, rfl, hm2, hb2⟩
  have hb02 : Below W0.heap.size W0 w2 := he1.below.trans (hb2.mono he1.size)
  have br2 := br.below hb02 br.lt
  have d0 := br2.cell0
  have d1 := br2.cell1
  have d2 := br2.cell2
  have f0 := br2.free
  obtain ⟨b4, A4, l4, c4, rfl, hl4, hc4, hlim4, hs4, ho4⟩ := hm2
  have HL4 := Lib.hid hl4
  have HC4 := Lib.hid hc4
  have HS4 := Lib.hid hs4
  clear hl4 hc4 hs4 hm1
  go_wp2_with fail
  have hst := br2.store (a := .bool b4) (b := .slice A4 l4 c4) (c := .int .i64 0)
  refine bodyPost_ret (results_cell_row rfl _ _ r 79 #[.bool b4, (.slice A4 l4 c4), .int .i64 0] (0, 0) _ (by rfl) hst Try.underlying79 rfl (by kernel_rfl)) rfl ?_
  have hbF : Below w.heap.size w w2 := hbw.trans (hb02.mono hbw.size)
  have hbE := store3_below (a := .bool b4) (b := .slice A4 l4 c4) (c := .int .i64 0) hbF HG.out
  refine ⟨_, rfl, ?_, hbE⟩
  have hn := NumAt.store3 (a := .bool b4) (b := .slice A4 l4 c4) (c := .int .i64 0) (⟨b4, A4, l4, c4, rfl, HL4.out, HC4.out, hlim4, HS4.out, ho4⟩ : NumAt w2 (.agg #[.bool b4, .slice A4 l4 c4, .int .i64 0]) (x + -y)) br2 (fun k h => by cases h) (fun k h => by cases h) (fun k h => by cases h)
  rw [show x - y = x + -y by omega]
  exact hn
end Go.Proofs.Ytmnfokapdipcdaa
/- The package rosetteref00: Top, Whole, TellInt. -/
namespace Go.Proofs.Ytmnfokapdipcdaa
open Go.RowKit Go.Deep
set_option maxRecDepth 100000 in
theorem ref_of (x : Nat) (w : World) (hx : x < W64) :
    Calls Try.prog 121 #[.int .u64 (x : Int)] w fun e w' => ∃ v, e = .returned v ∧ Own w' w.heap.size v (limbs x) ∧ Below w.heap.size w w' := by
  have HX := Lib.hid hx
  clear hx
  go_enter Try.func121, Try.ntmps121
  go_wp2_with fail
  have hb : Below w.heap.size w (w.alloc (.cells #[.int .u64 (x : Int)] 33)) := (Below.refl _ w).alloc (Nat.le_refl _) _
  have ho : Own (w.alloc (.cells #[.int .u64 (x : Int)] 33)) w.heap.size (.slice (some ⟨w.heap.size, 0, none⟩) 1 1) [x] :=
    ⟨Small.one HX.out, rfl, .inr ⟨w.heap.size, 1, _, rfl, Nat.le_refl _, heap_alloc_new w _, Nat.le_refl _, by simp only [maxLen]; omega, rfl, rfl⟩⟩
  obtain ⟨A, c, e, hc, hlim, _⟩ := ho.form
  injection e with e1 e2 e3
  subst e1 e3
  clear e2
  refine (ref_trim (some ⟨w.heap.size, 0, none⟩) 1 1 [x] _ hlim rfl (Nat.le_refl _) (by omega)).mono ?_
  rintro e w1 ⟨v, rfl, ho1, hb1⟩
  rw [show val [x] = x by simp [val]] at ho1
  go_wp2_with fail
  go_ret
  exact ⟨v, rfl, ho1.mono hb.size, hb.trans (hb1.mono hb.size)⟩
set_option maxHeartbeats 400000 in
set_option maxRecDepth 100000 in
theorem num_whole (n : Nat) (w : World) (hn : n < 4294967296) :
    Calls Try.prog 67 #[.int .i64 (n : Int)] w fun e w' => ∃ v', e = .returned v' ∧ NumAt w' v' (n : Int) ∧ Below w.heap.size w w' := by
  have HN := Lib.hid hn
  have hnI : (n : Int) < 4294967296 := by omega
  have hn0 : ¬ (n : Int) < 0 := by omega
  clear hn
  go_enter Try.func67, Try.ntmps67
  go_wp2_with fail
  have hb0 : Below w.heap.size w (w.alloc (.cells #[.bool false, .slice none 0 0, .int .i64 0] 79)) := (Below.refl _ w).alloc (Nat.le_refl _) _
  have hbx : Box3 (w.alloc (.cells #[.bool false, .slice none 0 0, .int .i64 0] 79)) w.heap.size 79 (.bool false) (.slice none 0 0) (.int .i64 0) := heap_alloc_new w _
  refine (ref_of n _ (by rw [W64_eq]; have := HN.out; omega)).mono ?_
  rintro e w1 ⟨v1, rfl, ho1, hb1⟩
  have hbF : Below w.heap.size w w1 := hb0.trans (hb1.mono hb0.size)
  have hbx1 := hbx.below hb1 hbx.lt
  have d0 := hbx1.cell0
  have d1 := hbx1.cell1
  have d2 := hbx1.cell2
  have f0 := hbx1.free
  obtain ⟨A1, c3, rfl, hc3, hlim3, _⟩ := ho1.form
  obtain ⟨m, hm⟩ : ∃ m, (limbs n).length = m := ⟨_, rfl⟩
  have HM := Lib.hid hm
  have HO := Lib.hid ho1
  rw [hm] at hc3 ⊢
  have HC3 := Lib.hid hc3
  obtain ⟨g, hg⟩ : ∃ g, w.heap.size = g := ⟨_, rfl⟩
  have HG := Lib.hid (show w.heap.size ≤ g by omega)
  rw [hg] at hbx1 d0 d1 d2 f0 ⊢
  clear hm ho1 hc3 hbx hg
  go_wp2_with fail
  have hst := hbx1.store (a := .bool false) (b := .slice A1 m c3) (c := .int .i64 0)
  refine bodyPost_ret (results_cell_row rfl _ _ g 79 #[.bool false, (.slice A1 m c3), .int .i64 0] (0, 0) _ (by rfl) hst Try.underlying79 rfl (by kernel_rfl)) rfl ?_
  have hbE := store3_below (a := .bool false) (b := .slice A1 m c3) (c := .int .i64 0) hbF HG.out
  refine ⟨_, rfl, ?_, by simpa using hbE⟩
  have hown2 := HO.out.store3 (a := .bool false) (b := .slice A1 m c3) (c := .int .i64 0) hbx1
  obtain ⟨A9, c9, e9, _, hlim9, _⟩ := hown2.form
  injection e9 with e91 e92 e93
  subst e91
  exact NumAt.of (b := false) HM.out.symm HC3.out hlim9 (by have h := hown2.mono (Nat.zero_le _); rwa [HM.out] at h)
set_option maxRecDepth 100000 in
theorem num_topL (v : Value) (z : Int) (w : World) (h : NumL w v z) (hl : (limbs z.natAbs).length ≤ 137438953472) :
    Calls Try.prog 145 #[v] w fun e w' => e = .returned (.int .i64 (nbits z.natAbs : Nat)) ∧ Below w.heap.size w w' := by
  obtain ⟨b, A, l, c, rfl, hlen, hc, hlim, hs⟩ := h
  have HLEN := Lib.hid hlen
  have HC := Lib.hid hc
  have HL := Lib.hid hl
  clear hlen hc hl hs
  go_enter Try.func145, Try.ntmps145
  go_upto_region 1 with (fail)
  have hb0 : Below w.heap.size w (w.alloc (.cells #[.bool b, .slice A l c, .int .i64 0] 79)) := (Below.refl _ w).alloc (Nat.le_refl _) _
  have hbx : Box3 (w.alloc (.cells #[.bool b, .slice A l c, .int .i64 0] 79)) w.heap.size 79 (.bool b) (.slice A l c) (.int .i64 0) := heap_alloc_new w _
  have hlim0 := (hlim.below hb0).more hb0.size
  generalize w.heap.size = g at hbx ⊢
  generalize w.alloc (.cells #[.bool b, .slice A l c, .int .i64 0] 79) = W0 at hbx hb0 hlim0 ⊢
  have a1 := later_cell hbx.cell1
  have a2 := later_cell hbx.cell2
  go_wp2_with fail
  refine wp_region_stages (fun w' => ∃ δ : Later Nix W0, w' = δ.world) [(false, 0), (false, 1), (false, 2), (false, 3), (true, 4)] 5 [.reads [_, _, _, _], .loud _] [_, _] (by kernel_rfl) (by kernel_rfl) rfl rfl ?_ ?_
  · exact ⟨⟨_, nix_drawn W0⟩, rfl⟩
  refine wpStages_reads ?_
  repeat (go_big_quiet_step (fail))
  refine wpQuiet_nil ?_
  refine wpStages_loud rfl ?_
  intro K hK
  go_big_op
  refine (ref_bits A l c (limbs z.natAbs) (W0.drewN 1) (hlim0.drewN 1) HLEN.out HC.out (by have := HL.out; have := HLEN.out; omega)).mono ?_
  rintro e w1 ⟨rfl, hb1⟩
  rw [val_limbs]
  have he1 : Ext Nix W0 w1 := (nix_drawn W0).later (Ext.of_below hb1)
  obtain ⟨nb, hnb⟩ : ∃ nb : Nat, nbits z.natAbs = nb := ⟨_, rfl⟩
  have hnbI : (nb : Int) ≤ 8796093022208 := by
    have h1 := nbits_le_lc z.natAbs
    have h2 := HL.out
    unfold lc at h1
    omega
  rw [hnb]
  have HNB := Lib.hid hnb
  clear hnb a1 a2
  refine hK _ _ ⟨⟨w1, he1⟩, rfl⟩ ?_
  clear hK K
  refine wpStages_nil ?_
  go_wp2_with fail
  go_ret
  rw [HNB.out]
  exact ⟨by rfl, hb0.trans (he1.below.mono hb0.size)⟩
theorem num_top (v : Value) (z : Int) (w : World) (h : NumAt w v z) (hl : (limbs z.natAbs).length ≤ 137438953472) :
    Calls Try.prog 145 #[v] w fun e w' => e = .returned (.int .i64 (nbits z.natAbs : Nat)) ∧ Below w.heap.size w w' := num_topL v z w h.lend hl
theorem box2_store {W : World} {g : Nat} {x y a b : Value} {t : TypeId} (h : W.heap[g]? = some (.cells #[x, y] t (0, 0))) : ((W.setCell ⟨g, 0, none⟩ a).setCell ⟨g, 1, none⟩ b).heap[g]? = some (.cells #[a, b] t (0, 0)) := by
  simp [World.setCell, Array.getElem?_modify, h]
set_option maxHeartbeats 400000 in
set_option maxRecDepth 100000 in
theorem num_tellL (v : Value) (z : Int) (w : World) (h : NumL w v z) (hl : (limbs z.natAbs).length ≤ 137438953472) :
    Calls Try.prog 110 #[v] w fun e w' => ∃ b A k c, e = .returned (.tuple #[.agg #[.bool b, .slice A k c], .bool (decide (nbits z.natAbs ≤ 262144))]) ∧ (nbits z.natAbs ≤ 262144 → b = decide (z < 0) ∧ Own w' w.heap.size (.slice A k c) (limbs z.natAbs)) ∧ Below w.heap.size w w' := by
  have NZ := h
  obtain ⟨b, A, l, c, rfl, hlen, hc, hlim, hs⟩ := h
  have HLEN := Lib.hid hlen
  have HC := Lib.hid hc
  have HL := Lib.hid hl
  have HS := Lib.hid hs
  clear hlen hc hl hs
  go_enter Try.func110, Try.ntmps110
  go_upto_region 1 with (fail)
  have hbw : Below w.heap.size w ((w.alloc (.cells #[.bool b, .slice A l c, .int .i64 0] 79)).alloc (.cells #[.bool false, .slice none 0 0] 36)) := ((Below.refl _ w).alloc (Nat.le_refl _) _).alloc (by simp) _
  have bx : Box3 ((w.alloc (.cells #[.bool b, .slice A l c, .int .i64 0] 79)).alloc (.cells #[.bool false, .slice none 0 0] 36)) w.heap.size 79 (.bool b) (.slice A l c) (.int .i64 0) := by
    unfold Box3
    rw [Below.heap_alloc _ _ _ (by simp)]; exact heap_alloc_new w _
  have br : ((w.alloc (.cells #[.bool b, .slice A l c, .int .i64 0] 79)).alloc (.cells #[.bool false, .slice none 0 0] 36)).heap[w.heap.size + 1]? = some (.cells #[.bool false, .slice none 0 0] 36 (0, 0)) := by
    have h := heap_alloc_new (w.alloc (.cells #[.bool b, .slice A l c, .int .i64 0] 79)) (.cells #[.bool false, .slice none 0 0] 36)
    simpa using h
  obtain ⟨g, hg⟩ : ∃ g, w.heap.size = g := ⟨_, rfl⟩
  obtain ⟨r, hr⟩ : ∃ r, w.heap.size + 1 = r := ⟨_, rfl⟩
  rw [hr] at br ⊢
  rw [hg] at bx ⊢
  have HR := Lib.hid (show w.heap.size ≤ r by omega)
  have HGG := Lib.hid hg
  generalize (w.alloc (.cells #[.bool b, .slice A l c, .int .i64 0] 79)).alloc (.cells #[.bool false, .slice none 0 0] 36) = W0 at bx br hbw ⊢
  have HBW := Lib.hid (show Below w.heap.size w W0 from hbw)
  clear hg hr hbw
  have a0 := bx.cell0
  have a1 := bx.cell1
  have a2 := bx.cell2
  go_wp2_with fail
  refine (num_zeroL _ z W0 (NZ.below HBW.out) HL.out).mono ?_
  rintro e w1 ⟨rfl, hb1⟩
  have hbF : Below w.heap.size w w1 := HBW.out.trans (hb1.mono HBW.out.size)
  have brL : r < W0.heap.size := (Array.getElem?_eq_some_iff.1 br).1
  have br1 : w1.heap[r]? = some (.cells #[.bool false, .slice none 0 0] 36 (0, 0)) := by rw [hb1.block r brL]; exact br
  have bx1 := bx.below hb1 bx.lt
  have d0 : w1.cell? ⟨r, 0, none⟩ = some (.bool false) := by rw [cell_of_row w1 r 0 _ _ (0, 0) br1]; rfl
  have d1 : w1.cell? ⟨r, 1, none⟩ = some (.slice none 0 0) := by rw [cell_of_row w1 r 1 _ _ (0, 0) br1]; rfl
  have f0 : ∀ k, w1.frozen? ⟨r, k, none⟩ = false := fun k => by simp [World.frozen?, br1]
  by_cases hz : z = 0
  · rw [decide_eq_true hz]
    have HZ := Lib.hid hz
    clear hz
    go_wp2_with fail
    have hst := box2_store (a := .bool false) (b := .slice none 0 0) br1
    refine bodyPost_ret (v := .tuple #[.agg #[.bool false, (.slice none 0 0)], .bool true]) (by
      rw [results_cell_tmp rfl]
      have hld := run_loadVar_row (P := Try.prog) _ r 36 36 #[.bool false, (.slice none 0 0)] (0, 0) _ hst Try.underlying36 rfl (by kernel_rfl)
      simp [asAddr, Result.andThen, hld]) rfl ?_
    refine ⟨false, none, 0, 0, by rw [HZ.out]; rfl, fun _ => ⟨by rw [HZ.out]; rfl, by rw [HZ.out]; exact (show limbs (0 : Int).natAbs = [] by simp [limbs_zero]) ▸ Own.nil _ _⟩, (hbF.setCell (p := ⟨r, 0, none⟩) HR.out _).setCell (p := ⟨r, 1, none⟩) HR.out _⟩
  · rw [decide_eq_false hz]
    have HZ := Lib.hid hz
    clear hz
    have a0 := bx1.cell0
    have a1 := bx1.cell1
    have a2 := bx1.cell2
    go_wp2_with fail
    refine (num_topL _ z w1 (NZ.below hbF) HL.out).mono ?_
    rintro e w2 ⟨rfl, hb2⟩
    have hbF2 : Below w.heap.size w w2 := hbF.trans (hb2.mono hbF.size)
    have br2 : w2.heap[r]? = some (.cells #[.bool false, .slice none 0 0] 36 (0, 0)) := by rw [hb2.block r (Array.getElem?_eq_some_iff.1 br1).1]; exact br1
    have bx2 := bx1.below hb2 bx1.lt
    have d0 : w2.cell? ⟨r, 0, none⟩ = some (.bool false) := by rw [cell_of_row w2 r 0 _ _ (0, 0) br2]; rfl
    have d1 : w2.cell? ⟨r, 1, none⟩ = some (.slice none 0 0) := by rw [cell_of_row w2 r 1 _ _ (0, 0) br2]; rfl
    have f0 : ∀ k, w2.frozen? ⟨r, k, none⟩ = false := fun k => by simp [World.frozen?, br2]
    obtain ⟨nb, hnb⟩ : ∃ nb : Nat, nbits z.natAbs = nb := ⟨_, rfl⟩
    rw [hnb]
    by_cases hlong : 262144 < nb
    · have hlI : (262144 : Int) < (nb : Int) := by omega
      have HD := Lib.hid (show decide (nbits z.natAbs ≤ 262144) = false ∧ ¬ nbits z.natAbs ≤ 262144 from ⟨decide_eq_false (by omega), by omega⟩)
      clear hlong hnb
      go_wp2_with fail
      have hst := box2_store (a := .bool false) (b := .slice none 0 0) br2
      refine bodyPost_ret (v := .tuple #[.agg #[.bool false, (.slice none 0 0)], .bool false]) (by
        rw [results_cell_tmp rfl]
        have hld := run_loadVar_row (P := Try.prog) _ r 36 36 #[.bool false, (.slice none 0 0)] (0, 0) _ hst Try.underlying36 rfl (by kernel_rfl)
        simp [asAddr, Result.andThen, hld]) rfl ?_
      exact ⟨false, none, 0, 0, by rw [HD.out.1], fun h => absurd h HD.out.2, (hbF2.setCell (p := ⟨r, 0, none⟩) HR.out _).setCell (p := ⟨r, 1, none⟩) HR.out _⟩
    · have hlI : (nb : Int) ≤ 262144 := by omega
      have HD := Lib.hid (show decide (nbits z.natAbs ≤ 262144) = true from decide_eq_true (by omega))
      have HB := Lib.hid (show b = decide (z < 0) by
        have h1 := HS.out
        have h2 := HZ.out
        cases b
        · have h1 : (z.natAbs : Int) = z := h1
          rw [decide_eq_false (by omega)]
        · have h1 : -(z.natAbs : Int) = z := h1
          rw [decide_eq_true (by omega)])
      clear hlong hnb
      have r0 := later_cell bx2.cell0
      have r1 := later_cell bx2.cell1
      have r2 := later_cell bx2.cell2
      have hlim2 := (hlim.below hbF2).more hbF2.size
      clear a0 a1 a2 d0 d1 f0
      go_wp2_with fail
      refine wp_region_stages (fun w' => ∃ δ : Later Nix w2, w' = δ.world) [(false, 0), (false, 1), (false, 2), (false, 3), (false, 4), (false, 5), (true, 6)] 7 [.reads [_, _, _, _, _, _], .loud _] [_, _, _] (by kernel_rfl) (by kernel_rfl) rfl rfl ?_ ?_
      · exact ⟨⟨_, nix_drawn w2⟩, rfl⟩
      refine wpStages_reads ?_
      repeat (go_big_quiet_step (fail))
      refine wpQuiet_nil ?_
      refine wpStages_loud rfl ?_
      intro K hK
      go_big_op
      have hup := ref_up A l c 0 (limbs z.natAbs) (w2.drewN 1) (hlim2.drewN 1) HLEN.out (by have := HL.out; have := HLEN.out; omega) (by omega)
      rw [val_limbs, Nat.pow_zero, Nat.mul_one, show ((0 : Nat) : Int) = 0 from rfl] at hup
      refine hup.mono ?_
      rintro e w3 ⟨v3, rfl, ho3, hb3⟩
      have he3 : Ext Nix w2 w3 := (nix_drawn w2).later (Ext.of_below hb3)
      have hbF3 : Below w.heap.size w w3 := hbF2.trans (he3.below.mono hbF2.size)
      have br3 : w3.heap[r]? = some (.cells #[.bool false, .slice none 0 0] 36 (0, 0)) := by rw [he3.below.block r (Array.getElem?_eq_some_iff.1 br2).1]; exact br2
      have d0 : w3.cell? ⟨r, 0, none⟩ = some (.bool false) := by rw [cell_of_row w3 r 0 _ _ (0, 0) br3]; rfl
      have d1 : w3.cell? ⟨r, 1, none⟩ = some (.slice none 0 0) := by rw [cell_of_row w3 r 1 _ _ (0, 0) br3]; rfl
      have f0 : ∀ k, w3.frozen? ⟨r, k, none⟩ = false := fun k => by simp [World.frozen?, br3]
      refine hK _ _ ⟨⟨w3, he3⟩, rfl⟩ ?_
      clear hK K r0 r1 r2
      refine wpStages_nil ?_
      obtain ⟨A3, k3, c3, rfl⟩ := ho3.slice
      have HO := Lib.hid ho3
      clear ho3
      go_wp2_with fail
      have hst := box2_store (a := .bool b) (b := .slice A3 k3 c3) br3
      refine bodyPost_ret (v := .tuple #[.agg #[.bool b, (.slice A3 k3 c3)], .bool true]) (by
        rw [results_cell_tmp rfl]
        have hld := run_loadVar_row (P := Try.prog) _ r 36 36 #[.bool b, (.slice A3 k3 c3)] (0, 0) _ hst Try.underlying36 rfl (by kernel_rfl)
        simp [asAddr, Result.andThen, hld]) rfl ?_
      refine ⟨b, A3, k3, c3, by rw [HD.out], fun _ => ⟨HB.out, ?_⟩, (hbF3.setCell (p := ⟨r, 0, none⟩) HR.out _).setCell (p := ⟨r, 1, none⟩) HR.out _⟩
      have hne : ∀ k, (Value.slice A3 k3 c3).ownBlock = some k → k ≠ r := by
        intro k hk e
        subst e
        obtain ⟨cs, hcs⟩ := HO.out.type hk
        rw [hcs] at br3
        simp at br3
      exact ((HO.out.mono hbF2.size).far ⟨r, 0, none⟩ _ hne).far ⟨r, 1, none⟩ _ hne
theorem num_tell (v : Value) (z : Int) (w : World) (h : NumAt w v z) (hl : (limbs z.natAbs).length ≤ 137438953472) :
    Calls Try.prog 110 #[v] w fun e w' => ∃ b A k c, e = .returned (.tuple #[.agg #[.bool b, .slice A k c], .bool (decide (nbits z.natAbs ≤ 262144))]) ∧ (nbits z.natAbs ≤ 262144 → b = decide (z < 0) ∧ Own w' w.heap.size (.slice A k c) (limbs z.natAbs)) ∧ Below w.heap.size w w' := num_tellL v z w h.lend hl
end Go.Proofs.Ytmnfokapdipcdaa
