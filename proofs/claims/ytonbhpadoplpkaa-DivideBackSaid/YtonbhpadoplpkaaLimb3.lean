import Derived.Test.YtonbhpadoplpkaaLimb
import Derived.Test.YtonbhpadoplpkaaRef6
/- The package limb, on: Add, Sub, Of. -/
namespace Go.Proofs.Ytonbhpadoplpkaa
open Go.RowKit Go.Deep
/-- What is told of a whole number: it, or that it is too long. -/
def longR (z : Int) : Raw := if 4096 < lc z.natAbs then (false, []) else rawOf z
def longE (z : Int) : Int := if 4096 < lc z.natAbs then 3 else 0
theorem longR_ok {z : Int} (h : lc z.natAbs ≤ 4096) : longR z = rawOf z := by unfold longR; rw [if_neg (by omega)]
theorem longE_ok {z : Int} (h : lc z.natAbs ≤ 4096) : longE z = 0 := by unfold longE; rw [if_neg (by omega)]
theorem toldF_signed {neg : Bool} {n : Nat} {z : Int} (h : signed neg n = z) : toldF neg n = (longR z, longE z) := by
  subst h
  unfold longR longE
  rw [signed_natAbs]
  unfold toldF
  split <;> rfl
theorem limb_told' (neg : Bool) (A : Option Addr) (l c base : Nat) (xs : List Nat) (w : World) (h : Lim w w.heap.size A xs) (hf : Fresh w base A c) (hx : l = xs.length) (hc : l ≤ c) (hl : l ≤ 1099511627776) :
    Calls Try.prog 41 #[.bool neg, .slice A l c] w fun e w' => ∃ v, e = .returned (.tuple #[v, .int .i64 (toldF neg (val xs)).2]) ∧ RawAt w' base v (toldF neg (val xs)).1 ∧ Below w.heap.size w w' := by
  subst hx
  exact limb_told neg A c base xs w h hf hc hl
set_option maxHeartbeats 1000000 in
set_option maxRecDepth 100000 in
theorem limb_Add (u v : Value) (x y : Int) (w : World) (hx : IntV w u x) (hy : IntV w v y) (lx : lc x.natAbs ≤ 4096) (ly : lc y.natAbs ≤ 4096) :
    Calls Try.prog 22 #[u, v] w fun e w' => ∃ v', e = .returned (.tuple #[v', .int .i64 (longE (x + y))]) ∧ RawAt w' w.heap.size v' (longR (x + y)) ∧ Below w.heap.size w w' := by
  obtain ⟨A1, l1, c1, rfl, hl1, hc1, hlim1⟩ := hx
  obtain ⟨A2, l2, c2, rfl, hl2, hc2, hlim2⟩ := hy
  have HR1 := Lib.hid (right_of lx)
  have HR2 := Lib.hid (right_of ly)
  have HL1 := Lib.hid hl1
  have HL2 := Lib.hid hl2
  have hI1 : (l1 : Int) ≤ 4096 := by unfold lc at lx; omega
  have hI2 : (l2 : Int) ≤ 4096 := by unfold lc at ly; omega
  have HX := Lib.hid lx
  have HY := Lib.hid ly
  clear hl1 hl2 lx ly
  obtain ⟨s1, hs1⟩ : ∃ s, decide (x < 0) = s := ⟨_, rfl⟩
  obtain ⟨s2, hs2⟩ : ∃ s, decide (y < 0) = s := ⟨_, rfl⟩
  have HS1 := Lib.hid hs1
  have HS2 := Lib.hid hs2
  rw [hs1, hs2]
  clear hs1 hs2
  go_enter Try.func22, Try.ntmps22
  go_wp2_with fail
  obtain ⟨W0, g, h, r, hW, hg, hh, hr, hgr, bx, by_, br, hbw, hsz⟩ := box_three w (.bool s1) (.slice A1 l1 c1) (.bool s2) (.slice A2 l2 c2) (.bool false) (.slice none 0 0)
  have HW := Lib.hid (show w.heap.size = g from hg)
  rw [hW, hr, hh, hg]
  have k1 := ((hg ▸ hlim1 : Lim w g A1 (limbs x.natAbs)).below hbw)
  have k2 := ((hg ▸ hlim2 : Lim w g A2 (limbs y.natAbs)).below hbw)
  clear hW hr hg hh hlim1 hlim2
  refine (limb_right s1 A1 l1 c1 (limbs x.natAbs) W0 (by omega) k1 HL1.out).mono ?_
  rintro e w1 ⟨rfl, hb1⟩
  rw [← HS1.out, HR1.out, HS1.out]
  have bx := bx.below hb1 bx.lt
  have by_ := by_.below hb1 by_.lt
  have br := br.below hb1 br.lt
  have hbw1 := hbw.trans (hb1.mono (by omega))
  have k1 := k1.below (hb1.mono (by omega))
  have k2 := k2.below (hb1.mono (by omega))
  have hsz1 := hb1.size
  have a0 := bx.cell0
  have a1 := bx.cell1
  have b0 := by_.cell0
  have b1 := by_.cell1
  clear hb1
  go_wp2_with fail
  refine (limb_right s2 A2 l2 c2 (limbs y.natAbs) w1 (by omega) k2 HL2.out).mono ?_
  rintro e w2 ⟨rfl, hb2⟩
  rw [← HS2.out, HR2.out, HS2.out]
  have bx := bx.below hb2 bx.lt
  have by_ := by_.below hb2 by_.lt
  have br := br.below hb2 br.lt
  have hbw2 := hbw1.trans (hb2.mono (by omega))
  have k1 := k1.below (hb2.mono (by omega))
  have k2 := k2.below (hb2.mono (by omega))
  have hsz2 := hb2.size
  clear hb2 a0 a1 b0 b1 hbw1 hbw
  have a0 := bx.cell0
  have a1 := bx.cell1
  have b0 := by_.cell0
  have b1 := by_.cell1
  go_wp2_with fail
  refine (limb_sizes A1 A2 l1 l2 c1 c2 x.natAbs y.natAbs w2 k1 k2 HL1.out HL2.out (by omega) (by omega)).mono ?_
  rintro e w3 ⟨q, rfl, hq, n, rfl⟩
  have bx : Box2 (w2.drewN n) g (.bool s1) (.slice A1 l1 c1) := bx
  have by_ : Box2 (w2.drewN n) h (.bool s2) (.slice A2 l2 c2) := by_
  have br : Box2 (w2.drewN n) r (.bool false) (.slice none 0 0) := br
  have hbw3 := below_drewN hbw2 n
  have k1 := k1.drewN n
  have k2 := k2.drewN n
  have hsz3 : g + 3 ≤ (w2.drewN n).heap.size := by show g + 3 ≤ w2.heap.size; omega
  generalize w2.drewN n = w3 at bx by_ br hbw3 k1 k2 hsz3 ⊢
  clear a0 a1 b0 b1 hbw2 hsz1 hsz2 hsz
  have a0 := bx.cell0
  have a1 := bx.cell1
  have b0 := by_.cell0
  have b1 := by_.cell1
  have fa := bx.free
  have fb := by_.free
  have HB := Lib.hid hbw3
  have BR := Lib.hid br
  have BX := Lib.hid bx
  have BY := Lib.hid by_
  have HQ := Lib.hid hq
  have K1 := Lib.hid k1
  have K2 := Lib.hid k2
  clear hbw3 br bx by_ hq k1 k2 HR1 HR2
  go_upto_if 25 with (fail)
  go_cut [5] (fun s5 wx => s5 = .int .i64 0 ∧ ∃ (t1 t2 : Bool) (B1 B2 : Option Addr) (m1 m2 d1 d2 : Nat) (X Y : Nat), Box2 wx g (.bool t1) (.slice B1 m1 d1) ∧ Box2 wx h (.bool t2) (.slice B2 m2 d2) ∧ Box2 wx r (.bool false) (.slice none 0 0) ∧ Below g w wx ∧
    Lim wx g B1 (limbs X) ∧ Lim wx g B2 (limbs Y) ∧ m1 = lc X ∧ m2 = lc Y ∧ Y ≤ X ∧ lc X ≤ 4096 ∧ signed t1 X + signed t2 Y = x + y ∧ (Y = 0 → t2 = false))
  case first =>
    by_cases hq0 : q < 0
    · go_wp2_with fail
      go_meet
      have hle := (HQ.out.1.1 hq0)
      refine ⟨rfl, s2, s1, A2, A1, l2, l1, c2, c1, y.natAbs, x.natAbs, BX.out.store.far (by omega), (BY.out.far (by omega)).store, (BR.out.far (by omega)).far (by omega), store2_below (store2_below HB.out (Nat.le_refl _)) (by omega), ((K2.out.setCell (p := ⟨g, 0, none⟩) (Nat.le_refl _) _).setCell (p := ⟨g, 1, none⟩) (Nat.le_refl _) _).setCell (p := ⟨h, 0, none⟩) (by show g ≤ h; omega) _ |>.setCell (p := ⟨h, 1, none⟩) (by show g ≤ h; omega) _,
        ((K1.out.setCell (p := ⟨g, 0, none⟩) (Nat.le_refl _) _).setCell (p := ⟨g, 1, none⟩) (Nat.le_refl _) _).setCell (p := ⟨h, 0, none⟩) (by show g ≤ h; omega) _ |>.setCell (p := ⟨h, 1, none⟩) (by show g ≤ h; omega) _, HL2.out, HL1.out, by omega, HY.out, ?_, fun h0 => ?_⟩
      · rw [← HS1.out, ← HS2.out, signed_of, signed_of]; omega
      · rw [← HS1.out]; exact decide_eq_false (by omega)
    · go_wp2_with fail
      go_meet
      have hle : ¬ x.natAbs < y.natAbs := fun h => by have := HQ.out.1.2 h; omega
      refine ⟨rfl, s1, s2, A1, A2, l1, l2, c1, c2, x.natAbs, y.natAbs, BX.out, BY.out, BR.out, HB.out, K1.out, K2.out, HL1.out, HL2.out, by omega, HX.out, ?_, fun h0 => ?_⟩
      · rw [← HS1.out, ← HS2.out, signed_of, signed_of]
      · rw [← HS2.out]; exact decide_eq_false (by omega)
  case rest =>
  clear bx by_ br k1 k2 HB BR BX BY HQ K1 K2 hsz3
  obtain ⟨rfl, t1, t2, B1, B2, m1, m2, d1, d2, X, Y, bx, by_, br, hbw, k1, k2, hm1, hm2, hYX, hXl, hsum, h0⟩ := hcut
  have hmI : (m1 : Int) ≤ 4096 := by omega
  have HM1 := Lib.hid hm1
  have HM2 := Lib.hid hm2
  have HYX := Lib.hid hYX
  have HS := Lib.hid hsum
  have H0 := Lib.hid h0
  have hszg := by_.lt
  have hszr := br.lt
  have hmk := make_limbs_succ m1 (by omega)
  have a0 := bx.cell0
  have a1 := bx.cell1
  have b0 := by_.cell0
  have b1 := by_.cell1
  have HML := Lib.hid (show m2 ≤ m1 by rw [hm1, hm2]; exact lc_mono hYX)
  clear hm1 hm2 hYX hXl hsum h0
  go_wp2_with fail
  refine (limb_behind B2 m2 d2 _).mono ?_
  rintro e w5 ⟨rfl, rfl⟩
  have hex : ∃ (W : World) (O C : Nat), (wc.alloc (.cells (madeCells #[.int .u64 0] (m1 + 1)) 53)).alloc (.cells #[.slice B2 m2 d2] 22) = W ∧ wc.heap.size = O ∧ (wc.alloc (.cells (madeCells #[.int .u64 0] (m1 + 1)) 53)).heap.size = C ∧ C = O + 1 ∧ W.heap.size = O + 2 ∧ Row W O (List.replicate (m1 + 1) 0) ∧ Fresh W O (some ⟨O, 0, none⟩) (m1 + 1) ∧ W.cell? ⟨C, 0, none⟩ = some (.slice B2 m2 d2) ∧ Below O wc W := by
    refine ⟨_, _, _, rfl, rfl, rfl, by simp, by simp, (Row.made wc (m1 + 1)).alloc _, (Fresh.made wc (m1 + 1)).below ((Below.refl _ _).alloc (Nat.le_refl _) _), ?_, ((Below.refl _ _).alloc (Nat.le_refl _) _).alloc (by simp) _⟩
    rw [cell_of_row _ _ 0 #[.slice B2 m2 d2] 22 (0, 0) (heap_alloc_new _ _)]
    rfl
  obtain ⟨W5, O, C, hW5, hO, hC, hCO, hsz5, hrow0, hfr0, hcC, hb5⟩ := hex
  rw [hW5, hO, hC]
  have bx5 := bx.below hb5 (by have := bx.lt; omega)
  have by5 := by_.below hb5 (by omega)
  have br5 := br.below hb5 (by omega)
  have k1 := k1.below (hb5.mono (by omega))
  have k2 := k2.below (hb5.mono (by omega))
  have hbw5 : Below g w W5 := hbw.trans (hb5.mono (by omega))
  have hgO : g + 3 ≤ O := by omega
  have HCO := Lib.hid hCO
  clear hCO hW5 hO hC bx by_ br hbw a0 a1 b0 b1 hb5 hmk
  have a0 := bx5.cell0
  have a1 := bx5.cell1
  have b0 := by5.cell0
  have b1 := by5.cell1
  have HBX := Lib.hid bx5
  have HBY := Lib.hid by5
  have HBR := Lib.hid br5
  have HBW := Lib.hid hbw5
  have hXs := small_limbs X
  have hYs := small_limbs Y
  have hXv := val_limbs X
  have hYv := val_limbs Y
  have hm1 : m1 = (limbs X).length := HM1.out
  have hm2 : m2 = (limbs Y).length := HM2.out
  generalize limbs X = xs at *
  generalize limbs Y = ys at *
  have HM1 := Lib.hid hm1
  have HM2 := Lib.hid hm2
  have HXV := Lib.hid hXv
  have HYV := Lib.hid hYv
  clear hm1 hm2 hXv hYv bx5 by5 br5 hbw5
  by_cases hs : t1 = t2
  · subst hs
    have tt : (t1 == t1) = true := by simp
    have HSG := Lib.hid (show signed t1 (X + Y) = x + y by rw [← HS.out, signed_add_same])
    go_wp2_with fail
    go_loopw [8, 39] (fun t6 t23 wr => ∃ (k c : Nat) (os : List Nat), k ≤ m1 ∧ c ≤ 1 ∧ os.length = m1 + 1 ∧ t6 = .int .u64 (c : Int) ∧ t23 = .int .i64 (k : Int) ∧ Row wr O os ∧ Fresh wr O (some ⟨O, 0, none⟩) (m1 + 1) ∧ (∀ p : Addr, p.block ≠ O → wr.cell? p = W5.cell? p) ∧ Below O W5 wr ∧ wr.heap.size = W5.heap.size ∧ wr.heap[r]? = W5.heap[r]? ∧ val (os.take k) + W64 ^ k * c = val (xs.take k) + val (ys.take k)) (fun _ t23 _ => m1 - (intOf t23).toNat)
    case atStart =>
      exact ⟨0, 0, List.replicate (m1 + 1) 0, by omega, by omega, by simp, rfl, rfl, hrow0, hfr0, fun _ _ => rfl, Below.refl _ _, rfl, rfl, by simp⟩
    case round =>
      clear a0 a1 b0 b1
      obtain ⟨k, c, os, hk, hc, ho, rfl, rfl, hrow, hfr, hkeep, hbel, hszw, hrr, hval⟩ := hrel
      have HV := Lib.hid hval
      have HO := Lib.hid ho
      have HK := Lib.hid hkeep
      have HRR := Lib.hid hrr
      have a0 := (hkeep ⟨g, 0, none⟩ (by show ¬ g = O; omega)).trans HBX.out.cell0
      have a1 := (hkeep ⟨g, 1, none⟩ (by show ¬ g = O; omega)).trans HBX.out.cell1
      have b0 := (hkeep ⟨h, 0, none⟩ (by show ¬ h = O; omega)).trans HBY.out.cell0
      have b1 := (hkeep ⟨h, 1, none⟩ (by show ¬ h = O; omega)).trans HBY.out.cell1
      have hcC' := (hkeep ⟨C, 0, none⟩ (by have := HCO.out; show ¬ C = O; omega)).trans hcC
      have hbelg : Below g W5 wr := hbel.mono (by omega)
      have HFR := Lib.hid hfr
      clear hval ho hkeep hrr hfr
      by_cases hlt : k < m1
      · obtain ⟨ad, hB1, hb, hcell⟩ := (k1.below hbelg).at_ (k := k) (by rw [← HM1.out]; exact hlt)
        subst hB1
        obtain ⟨x0, hx⟩ : ∃ x0, xs.getD k 0 = x0 := ⟨_, rfl⟩
        obtain ⟨y0, hy⟩ : ∃ y0, ys.getD k 0 = y0 := ⟨_, rfl⟩
        have hxs : x0 < W64 := hx ▸ hXs.getD k
        have hys : y0 < W64 := hy ▸ hYs.getD k
        rw [hx] at hcell
        have hcg := hrow.cell (k := k) (by rw [HO.out]; omega)
        have hfg := hrow.free k
        have HS := Lib.hid (show val ((os.set k (addLo x0 y0 c)).take (k + 1)) + W64 ^ (k + 1) * (addHi x0 y0 c) = val (xs.take (k + 1)) + val (ys.take (k + 1)) by
          have hV := HV.out
          have hs := add_split x0 y0 c
          rw [val_take_set os k _ (by rw [HO.out]; omega), val_take_step xs, val_take_step ys, hx, hy, Nat.pow_succ]
          generalize val (os.take k) = a1 at *
          generalize val (xs.take k) = a2 at *
          generalize val (ys.take k) = a3 at *
          generalize W64 ^ k = P at *
          have : P * (addLo x0 y0 c + W64 * addHi x0 y0 c) = P * (x0 + y0 + c) := by rw [hs]
          grind)
        have HXX := Lib.hid hx
        have HYY := Lib.hid hy
        have hset := hrow.set (k := k) (x := addLo x0 y0 c) (by rw [HO.out]; omega) (addLo_lt _ _ _)
        have hc' := addHi_le hxs hys hc
        have hbel' := hbel.setCell (p := ⟨O, k, none⟩) (Nat.le_refl _) (.int .u64 (addLo x0 y0 c : Int))
        have HL := Lib.hid (show (os.set k (addLo x0 y0 c)).length = m1 + 1 by rw [List.length_set, HO.out])
        have hrun := add64_run x0 y0 c hc
        have hlI : (k : Int) < (m1 : Int) := by omega
        have hklc : k < m1 + 1 := by omega
        have HKK := Lib.hid (fun (p : Addr) (hp : p.block ≠ O) => show (wr.setCell ⟨O, k, none⟩ (.int .u64 (addLo x0 y0 c : Int))).cell? p = W5.cell? p from (cell_of_block (Below.heap_setCell _ _ _ p.block (by simpa using hp))).trans (HK.out p hp))
        have HR2 := Lib.hid (show (wr.setCell ⟨O, k, none⟩ (.int .u64 (addLo x0 y0 c : Int))).heap[r]? = W5.heap[r]? from (Below.heap_setCell _ _ _ r (by show ¬ r = O; omega)).trans HRR.out)
        clear hx hy
        go_wp2_with fail
        refine (limb_behind1 k C m2 d2 B2 ys wr hcC' (k2.below hbelg) HM2.out (by have := HML.out; omega)).mono ?_
        rintro e w6 ⟨rfl, rfl⟩
        rw [HYY.out]
        go_wp2_with fail
        exact ⟨⟨k + 1, _, _, by omega, hc', HL.out, rfl, by go_num, hset, HFR.out.set _ _ _, HKK.out, hbel', by simpa using hszw, HR2.out, HS.out⟩, by simp [intOf]; omega⟩
      · obtain rfl : k = m1 := by omega
        have hcg := hrow.cell (k := k) (by rw [HO.out]; omega)
        have hfg := hrow.free k
        have hcW : c < W64 := by rw [W64_eq]; omega
        have hset := hrow.set (k := k) (x := c) (by rw [HO.out]; omega) hcW
        have hbel' := hbel.setCell (p := ⟨O, k, none⟩) (Nat.le_refl _) (.int .u64 (c : Int))
        have HL := Lib.hid (show (os.set k c).length = k + 1 by rw [List.length_set, HO.out])
        have HF := Lib.hid (show val (os.set k c) = X + Y by
          have hV := HV.out
          have e1 := val_take_set os k c (by rw [HO.out]; omega)
          rw [List.take_of_length_le (by rw [List.length_set, HO.out]; omega)] at e1
          rw [List.take_of_length_le (l := xs) (by rw [← HM1.out]; omega), List.take_of_length_le (l := ys) (by rw [← HM2.out]; exact HML.out), HXV.out, HYV.out] at hV
          omega)
        have hRR : Box2 (wr.setCell ⟨O, k, none⟩ (.int .u64 (c : Int))) r (.bool false) (.slice none 0 0) := by
          unfold Box2
          rw [Below.heap_setCell _ _ _ r (by show ¬ r = O; omega), HRR.out]
          exact HBR.out
        have HRW := Lib.hid hRR
        have hszc : (wr.setCell ⟨O, k, none⟩ (.int .u64 (c : Int))).heap.size = O + 2 := by simpa [hsz5] using hszw
        have hfresh : Fresh (wr.setCell ⟨O, k, none⟩ (.int .u64 (c : Int))) O (some ⟨O, 0, none⟩) (k + 1) := HFR.out.set _ _ _
        clear hRR
        go_wp2_with fail
        refine (limb_told' t1 (some ⟨O, 0, none⟩) (k + 1) (k + 1) O (os.set k c) (wr.setCell ⟨O, k, none⟩ (.int .u64 (c : Int))) (hset.lim (by omega)) hfresh HL.out.symm (Nat.le_refl _) (by omega)).mono ?_
        rintro e w7 ⟨v7, rfl, hv7, hb7⟩
        rw [HF.out, toldF_signed HSG.out] at hv7 ⊢
        obtain ⟨E, hE⟩ : ∃ E : Int, longE (x + y) = E := ⟨_, rfl⟩
        have HE := Lib.hid hE
        simp only [hE]
        clear hE
        obtain ⟨bv, Av, lv, cv, rfl, HV7⟩ := hv7.open
        clear hv7
        have br7 : Box2 w7 r (.bool false) (.slice none 0 0) := HRW.out.below hb7 HRW.out.lt
        have HBF := Lib.hid (show Below g w w7 from (HBW.out.trans (hbel'.mono (by omega))).trans (hb7.mono (by omega)))
        have HRL := Lib.hid (show r < O by omega)
        have d0 := br7.cell0
        have d1 := br7.cell1
        have fr := br7.free
        have HE7 := Lib.hid (HV7.out.ext (ext_store2 (a := .bool bv) (b := .slice Av lv cv) br7.nums) (fun i hi => by subst hi; exact HRL.out))
        clear hb7
        go_wp2_with fail
        refine bodyPost_ret (v := .tuple #[.agg #[.bool bv, (.slice Av lv cv)], (.int .i64 E)]) (by
          rw [results_cell_tmp rfl]
          have hld := run_loadVar_row (P := Try.prog) _ r 24 24 #[.bool bv, (.slice Av lv cv)] (0, 0) _ br7.store Try.underlying24 rfl (by kernel_rfl)
          simp [asAddr, Result.andThen, hld]) rfl ?_
        rw [HE.out]
        exact ⟨_, rfl, HE7.out.since (base' := w.heap.size) (by rw [HW.out]; omega), by rw [HW.out]; exact store2_below HBF.out (by omega)⟩
  · have tt : (t1 == t2) = false := by simpa using hs
    have HNE := Lib.hid hs
    clear hs
    by_cases hz : m2 = 0
    · have tz : ((m2 : Int) == 0) = true := by simp [hz]
      have hz := Lib.hid hz
      have HSG := Lib.hid (show signed t1 (X + Y) = x + y by
        have h1 : ys = [] := List.eq_nil_of_length_eq_zero (HM2.out.symm.trans hz.out)
        have h2 := HYV.out
        rw [h1] at h2
        have h3 : Y = 0 := h2.symm
        rw [← HS.out, h3]
        cases t2 <;> simp [signed])
      go_wp2_with fail
      go_loopw [8, 39] (fun t6 t23 wr => ∃ (k c : Nat) (os : List Nat), k ≤ m1 ∧ c ≤ 1 ∧ os.length = m1 + 1 ∧ t6 = .int .u64 (c : Int) ∧ t23 = .int .i64 (k : Int) ∧ Row wr O os ∧ Fresh wr O (some ⟨O, 0, none⟩) (m1 + 1) ∧ (∀ p : Addr, p.block ≠ O → wr.cell? p = W5.cell? p) ∧ Below O W5 wr ∧ wr.heap.size = W5.heap.size ∧ wr.heap[r]? = W5.heap[r]? ∧ val (os.take k) + W64 ^ k * c = val (xs.take k) + val (ys.take k)) (fun _ t23 _ => m1 - (intOf t23).toNat)
      case atStart =>
        exact ⟨0, 0, List.replicate (m1 + 1) 0, by omega, by omega, by simp, rfl, rfl, hrow0, hfr0, fun _ _ => rfl, Below.refl _ _, rfl, rfl, by simp⟩
      case round =>
        clear a0 a1 b0 b1
        obtain ⟨k, c, os, hk, hc, ho, rfl, rfl, hrow, hfr, hkeep, hbel, hszw, hrr, hval⟩ := hrel
        have HV := Lib.hid hval
        have HO := Lib.hid ho
        have HK := Lib.hid hkeep
        have HRR := Lib.hid hrr
        have a0 := (hkeep ⟨g, 0, none⟩ (by show ¬ g = O; omega)).trans HBX.out.cell0
        have a1 := (hkeep ⟨g, 1, none⟩ (by show ¬ g = O; omega)).trans HBX.out.cell1
        have b0 := (hkeep ⟨h, 0, none⟩ (by show ¬ h = O; omega)).trans HBY.out.cell0
        have b1 := (hkeep ⟨h, 1, none⟩ (by show ¬ h = O; omega)).trans HBY.out.cell1
        have hcC' := (hkeep ⟨C, 0, none⟩ (by have := HCO.out; show ¬ C = O; omega)).trans hcC
        have hbelg : Below g W5 wr := hbel.mono (by omega)
        have HFR := Lib.hid hfr
        clear hval ho hkeep hrr hfr
        by_cases hlt : k < m1
        · obtain ⟨ad, hB1, hb, hcell⟩ := (k1.below hbelg).at_ (k := k) (by rw [← HM1.out]; exact hlt)
          subst hB1
          obtain ⟨x0, hx⟩ : ∃ x0, xs.getD k 0 = x0 := ⟨_, rfl⟩
          obtain ⟨y0, hy⟩ : ∃ y0, ys.getD k 0 = y0 := ⟨_, rfl⟩
          have hxs : x0 < W64 := hx ▸ hXs.getD k
          have hys : y0 < W64 := hy ▸ hYs.getD k
          rw [hx] at hcell
          have hcg := hrow.cell (k := k) (by rw [HO.out]; omega)
          have hfg := hrow.free k
          have HS := Lib.hid (show val ((os.set k (addLo x0 y0 c)).take (k + 1)) + W64 ^ (k + 1) * (addHi x0 y0 c) = val (xs.take (k + 1)) + val (ys.take (k + 1)) by
            have hV := HV.out
            have hs := add_split x0 y0 c
            rw [val_take_set os k _ (by rw [HO.out]; omega), val_take_step xs, val_take_step ys, hx, hy, Nat.pow_succ]
            generalize val (os.take k) = a1 at *
            generalize val (xs.take k) = a2 at *
            generalize val (ys.take k) = a3 at *
            generalize W64 ^ k = P at *
            have : P * (addLo x0 y0 c + W64 * addHi x0 y0 c) = P * (x0 + y0 + c) := by rw [hs]
            grind)
          have HXX := Lib.hid hx
          have HYY := Lib.hid hy
          have hset := hrow.set (k := k) (x := addLo x0 y0 c) (by rw [HO.out]; omega) (addLo_lt _ _ _)
          have hc' := addHi_le hxs hys hc
          have hbel' := hbel.setCell (p := ⟨O, k, none⟩) (Nat.le_refl _) (.int .u64 (addLo x0 y0 c : Int))
          have HL := Lib.hid (show (os.set k (addLo x0 y0 c)).length = m1 + 1 by rw [List.length_set, HO.out])
          have hrun := add64_run x0 y0 c hc
          have hlI : (k : Int) < (m1 : Int) := by omega
          have hklc : k < m1 + 1 := by omega
          have HKK := Lib.hid (fun (p : Addr) (hp : p.block ≠ O) => show (wr.setCell ⟨O, k, none⟩ (.int .u64 (addLo x0 y0 c : Int))).cell? p = W5.cell? p from (cell_of_block (Below.heap_setCell _ _ _ p.block (by simpa using hp))).trans (HK.out p hp))
          have HR2 := Lib.hid (show (wr.setCell ⟨O, k, none⟩ (.int .u64 (addLo x0 y0 c : Int))).heap[r]? = W5.heap[r]? from (Below.heap_setCell _ _ _ r (by show ¬ r = O; omega)).trans HRR.out)
          clear hx hy
          go_wp2_with fail
          refine (limb_behind1 k C m2 d2 B2 ys wr hcC' (k2.below hbelg) HM2.out (by have := HML.out; omega)).mono ?_
          rintro e w6 ⟨rfl, rfl⟩
          rw [HYY.out]
          go_wp2_with fail
          exact ⟨⟨k + 1, _, _, by omega, hc', HL.out, rfl, by go_num, hset, HFR.out.set _ _ _, HKK.out, hbel', by simpa using hszw, HR2.out, HS.out⟩, by simp [intOf]; omega⟩
        · obtain rfl : k = m1 := by omega
          have hcg := hrow.cell (k := k) (by rw [HO.out]; omega)
          have hfg := hrow.free k
          have hcW : c < W64 := by rw [W64_eq]; omega
          have hset := hrow.set (k := k) (x := c) (by rw [HO.out]; omega) hcW
          have hbel' := hbel.setCell (p := ⟨O, k, none⟩) (Nat.le_refl _) (.int .u64 (c : Int))
          have HL := Lib.hid (show (os.set k c).length = k + 1 by rw [List.length_set, HO.out])
          have HF := Lib.hid (show val (os.set k c) = X + Y by
            have hV := HV.out
            have e1 := val_take_set os k c (by rw [HO.out]; omega)
            rw [List.take_of_length_le (by rw [List.length_set, HO.out]; omega)] at e1
            rw [List.take_of_length_le (l := xs) (by rw [← HM1.out]; omega), List.take_of_length_le (l := ys) (by rw [← HM2.out]; exact HML.out), HXV.out, HYV.out] at hV
            omega)
          have hRR : Box2 (wr.setCell ⟨O, k, none⟩ (.int .u64 (c : Int))) r (.bool false) (.slice none 0 0) := by
            unfold Box2
            rw [Below.heap_setCell _ _ _ r (by show ¬ r = O; omega), HRR.out]
            exact HBR.out
          have HRW := Lib.hid hRR
          have hszc : (wr.setCell ⟨O, k, none⟩ (.int .u64 (c : Int))).heap.size = O + 2 := by simpa [hsz5] using hszw
          have hfresh : Fresh (wr.setCell ⟨O, k, none⟩ (.int .u64 (c : Int))) O (some ⟨O, 0, none⟩) (k + 1) := HFR.out.set _ _ _
          clear hRR
          go_wp2_with fail
          refine (limb_told' t1 (some ⟨O, 0, none⟩) (k + 1) (k + 1) O (os.set k c) (wr.setCell ⟨O, k, none⟩ (.int .u64 (c : Int))) (hset.lim (by omega)) hfresh HL.out.symm (Nat.le_refl _) (by omega)).mono ?_
          rintro e w7 ⟨v7, rfl, hv7, hb7⟩
          rw [HF.out, toldF_signed HSG.out] at hv7 ⊢
          obtain ⟨E, hE⟩ : ∃ E : Int, longE (x + y) = E := ⟨_, rfl⟩
          have HE := Lib.hid hE
          simp only [hE]
          clear hE
          obtain ⟨bv, Av, lv, cv, rfl, HV7⟩ := hv7.open
          clear hv7
          have br7 : Box2 w7 r (.bool false) (.slice none 0 0) := HRW.out.below hb7 HRW.out.lt
          have HBF := Lib.hid (show Below g w w7 from (HBW.out.trans (hbel'.mono (by omega))).trans (hb7.mono (by omega)))
          have HRL := Lib.hid (show r < O by omega)
          have d0 := br7.cell0
          have d1 := br7.cell1
          have fr := br7.free
          have HE7 := Lib.hid (HV7.out.ext (ext_store2 (a := .bool bv) (b := .slice Av lv cv) br7.nums) (fun i hi => by subst hi; exact HRL.out))
          clear hb7
          go_wp2_with fail
          refine bodyPost_ret (v := .tuple #[.agg #[.bool bv, (.slice Av lv cv)], (.int .i64 E)]) (by
            rw [results_cell_tmp rfl]
            have hld := run_loadVar_row (P := Try.prog) _ r 24 24 #[.bool bv, (.slice Av lv cv)] (0, 0) _ br7.store Try.underlying24 rfl (by kernel_rfl)
            simp [asAddr, Result.andThen, hld]) rfl ?_
          rw [HE.out]
          exact ⟨_, rfl, HE7.out.since (base' := w.heap.size) (by rw [HW.out]; omega), by rw [HW.out]; exact store2_below HBF.out (by omega)⟩
    · have tz : ((m2 : Int) == 0) = false := beq_eq_false_iff_ne.2 (by omega)
      have HSG := Lib.hid (show signed t1 (X - Y) = x + y by rw [← HS.out, signed_add_ge tt HYX.out])
      clear hz
      go_wp2_with fail
      go_loopw [8, 39] (fun t6 t23 wr => ∃ (k c : Nat) (os : List Nat), k ≤ m1 ∧ c ≤ 1 ∧ os.length = m1 + 1 ∧ t6 = .int .u64 (c : Int) ∧ t23 = .int .i64 (k : Int) ∧ Row wr O os ∧ Fresh wr O (some ⟨O, 0, none⟩) (m1 + 1) ∧ (∀ p : Addr, p.block ≠ O → wr.cell? p = W5.cell? p) ∧ Below O W5 wr ∧ wr.heap.size = W5.heap.size ∧ wr.heap[r]? = W5.heap[r]? ∧ val (os.take k) + val (ys.take k) = val (xs.take k) + W64 ^ k * c) (fun _ t23 _ => m1 - (intOf t23).toNat)
      case atStart =>
        exact ⟨0, 0, List.replicate (m1 + 1) 0, by omega, by omega, by simp, rfl, rfl, hrow0, hfr0, fun _ _ => rfl, Below.refl _ _, rfl, rfl, by simp⟩
      case round =>
        clear a0 a1 b0 b1
        obtain ⟨k, c, os, hk, hc, ho, rfl, rfl, hrow, hfr, hkeep, hbel, hszw, hrr, hval⟩ := hrel
        have HV := Lib.hid hval
        have HO := Lib.hid ho
        have HK := Lib.hid hkeep
        have HRR := Lib.hid hrr
        have a0 := (hkeep ⟨g, 0, none⟩ (by show ¬ g = O; omega)).trans HBX.out.cell0
        have a1 := (hkeep ⟨g, 1, none⟩ (by show ¬ g = O; omega)).trans HBX.out.cell1
        have b0 := (hkeep ⟨h, 0, none⟩ (by show ¬ h = O; omega)).trans HBY.out.cell0
        have b1 := (hkeep ⟨h, 1, none⟩ (by show ¬ h = O; omega)).trans HBY.out.cell1
        have hcC' := (hkeep ⟨C, 0, none⟩ (by have := HCO.out; show ¬ C = O; omega)).trans hcC
        have hbelg : Below g W5 wr := hbel.mono (by omega)
        have HFR := Lib.hid hfr
        clear hval ho hkeep hrr hfr
        by_cases hlt : k < m1
        · obtain ⟨ad, hB1, hb, hcell⟩ := (k1.below hbelg).at_ (k := k) (by rw [← HM1.out]; exact hlt)
          subst hB1
          obtain ⟨x0, hx⟩ : ∃ x0, xs.getD k 0 = x0 := ⟨_, rfl⟩
          obtain ⟨y0, hy⟩ : ∃ y0, ys.getD k 0 = y0 := ⟨_, rfl⟩
          have hxs : x0 < W64 := hx ▸ hXs.getD k
          have hys : y0 < W64 := hy ▸ hYs.getD k
          rw [hx] at hcell
          have hcg := hrow.cell (k := k) (by rw [HO.out]; omega)
          have hfg := hrow.free k
          have HS := Lib.hid (show val ((os.set k (subLo x0 y0 c)).take (k + 1)) + val (ys.take (k + 1)) = val (xs.take (k + 1)) + W64 ^ (k + 1) * (subHi x0 y0 c) by
            have hV := HV.out
            have hs := sub_split hxs hys hc
            rw [val_take_set os k _ (by rw [HO.out]; omega), val_take_step xs, val_take_step ys, hx, hy, Nat.pow_succ]
            generalize val (os.take k) = a1 at *
            generalize val (xs.take k) = a2 at *
            generalize val (ys.take k) = a3 at *
            generalize W64 ^ k = P at *
            have : P * (subLo x0 y0 c + y0 + c) = P * (x0 + W64 * subHi x0 y0 c) := by rw [hs]
            grind)
          have HXX := Lib.hid hx
          have HYY := Lib.hid hy
          have hset := hrow.set (k := k) (x := subLo x0 y0 c) (by rw [HO.out]; omega) (subLo_lt _ _ _)
          have hc' := subHi_le x0 y0 c
          have hbel' := hbel.setCell (p := ⟨O, k, none⟩) (Nat.le_refl _) (.int .u64 (subLo x0 y0 c : Int))
          have HL := Lib.hid (show (os.set k (subLo x0 y0 c)).length = m1 + 1 by rw [List.length_set, HO.out])
          have hrun := sub64_run x0 y0 c hc
          have hlI : (k : Int) < (m1 : Int) := by omega
          have hklc : k < m1 + 1 := by omega
          have HKK := Lib.hid (fun (p : Addr) (hp : p.block ≠ O) => show (wr.setCell ⟨O, k, none⟩ (.int .u64 (subLo x0 y0 c : Int))).cell? p = W5.cell? p from (cell_of_block (Below.heap_setCell _ _ _ p.block (by simpa using hp))).trans (HK.out p hp))
          have HR2 := Lib.hid (show (wr.setCell ⟨O, k, none⟩ (.int .u64 (subLo x0 y0 c : Int))).heap[r]? = W5.heap[r]? from (Below.heap_setCell _ _ _ r (by show ¬ r = O; omega)).trans HRR.out)
          clear hx hy
          go_wp2_with fail
          refine (limb_behind1 k C m2 d2 B2 ys wr hcC' (k2.below hbelg) HM2.out (by have := HML.out; omega)).mono ?_
          rintro e w6 ⟨rfl, rfl⟩
          rw [HYY.out]
          go_wp2_with fail
          exact ⟨⟨k + 1, _, _, by omega, hc', HL.out, rfl, by go_num, hset, HFR.out.set _ _ _, HKK.out, hbel', by simpa using hszw, HR2.out, HS.out⟩, by simp [intOf]; omega⟩
        · obtain rfl : k = m1 := by omega
          have hcg := hrow.cell (k := k) (by rw [HO.out]; omega)
          have hfg := hrow.free k
          have hcW : c < W64 := by rw [W64_eq]; omega
          have hset := hrow.set (k := k) (x := c) (by rw [HO.out]; omega) hcW
          have hbel' := hbel.setCell (p := ⟨O, k, none⟩) (Nat.le_refl _) (.int .u64 (c : Int))
          have HL := Lib.hid (show (os.set k c).length = k + 1 by rw [List.length_set, HO.out])
          have HF := Lib.hid (show val (os.set k c) = X - Y by
            have hV := HV.out
            have e1 := val_take_set os k c (by rw [HO.out]; omega)
            rw [List.take_of_length_le (by rw [List.length_set, HO.out]; omega)] at e1
            rw [List.take_of_length_le (l := xs) (by rw [← HM1.out]; omega), List.take_of_length_le (l := ys) (by rw [← HM2.out]; exact HML.out), HXV.out, HYV.out] at hV
            have hlt := val_lt (hrow.small.take k)
            rw [List.length_take, Nat.min_eq_left (by rw [HO.out]; omega)] at hlt
            have hyx := HYX.out
            have hc0 : c = 0 := by
              rcases Nat.eq_zero_or_pos c with h0 | h0
              · exact h0
              · have := Nat.le_mul_of_pos_right (W64 ^ k) h0
                omega
            subst hc0
            omega)
          have hRR : Box2 (wr.setCell ⟨O, k, none⟩ (.int .u64 (c : Int))) r (.bool false) (.slice none 0 0) := by
            unfold Box2
            rw [Below.heap_setCell _ _ _ r (by show ¬ r = O; omega), HRR.out]
            exact HBR.out
          have HRW := Lib.hid hRR
          have hszc : (wr.setCell ⟨O, k, none⟩ (.int .u64 (c : Int))).heap.size = O + 2 := by simpa [hsz5] using hszw
          have hfresh : Fresh (wr.setCell ⟨O, k, none⟩ (.int .u64 (c : Int))) O (some ⟨O, 0, none⟩) (k + 1) := HFR.out.set _ _ _
          clear hRR
          go_wp2_with fail
          refine (limb_told' t1 (some ⟨O, 0, none⟩) (k + 1) (k + 1) O (os.set k c) (wr.setCell ⟨O, k, none⟩ (.int .u64 (c : Int))) (hset.lim (by omega)) hfresh HL.out.symm (Nat.le_refl _) (by omega)).mono ?_
          rintro e w7 ⟨v7, rfl, hv7, hb7⟩
          rw [HF.out, toldF_signed HSG.out] at hv7 ⊢
          obtain ⟨E, hE⟩ : ∃ E : Int, longE (x + y) = E := ⟨_, rfl⟩
          have HE := Lib.hid hE
          simp only [hE]
          clear hE
          obtain ⟨bv, Av, lv, cv, rfl, HV7⟩ := hv7.open
          clear hv7
          have br7 : Box2 w7 r (.bool false) (.slice none 0 0) := HRW.out.below hb7 HRW.out.lt
          have HBF := Lib.hid (show Below g w w7 from (HBW.out.trans (hbel'.mono (by omega))).trans (hb7.mono (by omega)))
          have HRL := Lib.hid (show r < O by omega)
          have d0 := br7.cell0
          have d1 := br7.cell1
          have fr := br7.free
          have HE7 := Lib.hid (HV7.out.ext (ext_store2 (a := .bool bv) (b := .slice Av lv cv) br7.nums) (fun i hi => by subst hi; exact HRL.out))
          clear hb7
          go_wp2_with fail
          refine bodyPost_ret (v := .tuple #[.agg #[.bool bv, (.slice Av lv cv)], (.int .i64 E)]) (by
            rw [results_cell_tmp rfl]
            have hld := run_loadVar_row (P := Try.prog) _ r 24 24 #[.bool bv, (.slice Av lv cv)] (0, 0) _ br7.store Try.underlying24 rfl (by kernel_rfl)
            simp [asAddr, Result.andThen, hld]) rfl ?_
          rw [HE.out]
          exact ⟨_, rfl, HE7.out.since (base' := w.heap.size) (by rw [HW.out]; omega), by rw [HW.out]; exact store2_below HBF.out (by omega)⟩
end Go.Proofs.Ytonbhpadoplpkaa
/- The package limb, on: Sub, Of. -/
namespace Go.Proofs.Ytonbhpadoplpkaa
open Go.RowKit Go.Deep
theorem lc_neg {z : Int} (h : lc z.natAbs ≤ 4096) : lc (-z).natAbs ≤ 4096 := by rwa [Int.natAbs_neg]
set_option maxRecDepth 100000 in
theorem limb_Sub (u v : Value) (x y : Int) (w : World) (hx : IntV w u x) (hy : IntV w v y) (lx : lc x.natAbs ≤ 4096) (ly : lc y.natAbs ≤ 4096) :
    Calls Try.prog 33 #[u, v] w fun e w' => ∃ v', e = .returned (.tuple #[v', .int .i64 (longE (x - y))]) ∧ RawAt w' w.heap.size v' (longR (x - y)) ∧ Below w.heap.size w w' := by
  obtain ⟨s1, A1, l1, c1, rfl, HU⟩ := hx.open
  obtain ⟨s2, A2, l2, c2, rfl, HV⟩ := hy.open
  have LX := Lib.hid lx
  have LY := Lib.hid ly
  clear hx hy lx ly
  go_enter Try.func33, Try.ntmps33
  go_wp2_with fail
  obtain ⟨W0, g, h, r, hW, hg, hh, hr, hgr, bx, by_, br, hbw, hsz⟩ := box_three w (.bool s1) (.slice A1 l1 c1) (.bool s2) (.slice A2 l2 c2) (.bool false) (.slice none 0 0)
  have HW := Lib.hid (show w.heap.size = g from hg)
  rw [hW, hr, hh, hg]
  have HBW := Lib.hid hbw
  have HBWS := Lib.hid (show Below w.heap.size w W0 from by rw [hg]; exact hbw)
  clear hW hr hg hh hbw
  refine (limb_Neg _ y W0 (HV.out.below HBWS.out) LY.out).mono ?_
  rintro e w1 ⟨v1, rfl, hv1, hb1⟩
  obtain ⟨b1, B1, m1, d1, rfl, HV1⟩ := hv1.open
  have hbA : Below w1.heap.size w1 (w1.alloc (.cells #[.bool b1, .slice B1 m1 d1] 24)) := (Below.refl _ _).alloc (Nat.le_refl _) _
  have hb1A : Below W0.heap.size W0 (w1.alloc (.cells #[.bool b1, .slice B1 m1 d1] 24)) := hb1.trans (hbA.mono hb1.size)
  have bc : Box2 (w1.alloc (.cells #[.bool b1, .slice B1 m1 d1] 24)) w1.heap.size (.bool b1) (.slice B1 m1 d1) := heap_alloc_new w1 _
  have bx := bx.below hb1A bx.lt
  have br := br.below hb1A br.lt
  have HU2 := Lib.hid (((HU.out.below HBWS.out).below hb1A))
  have HV2 := Lib.hid (HV1.out.int.below hbA)
  have hszr := br.lt
  have HBW2 := Lib.hid (HBW.out.trans (hb1A.mono (by omega)))
  have a0 := bx.cell0
  have a1 := bx.cell1
  have e0 := bc.cell0
  have e1 := bc.cell1
  clear hv1
  go_wp2_with fail
  refine (limb_Add _ _ x (-y) _ HU2.out HV2.out LX.out (lc_neg LY.out)).mono ?_
  rintro e w3 ⟨v3, rfl, hv3, hb3⟩
  rw [← Int.sub_eq_add_neg] at hv3 ⊢
  obtain ⟨E, hE⟩ : ∃ E : Int, longE (x - y) = E := ⟨_, rfl⟩
  have HE := Lib.hid hE
  rw [hE]
  clear hE
  obtain ⟨b3, B3, m3, d3, rfl, HV3⟩ := hv3.open
  have br3 := br.below hb3 br.lt
  have HB3 := Lib.hid (HBW2.out.trans (hb3.mono (by omega)))
  have HR := Lib.hid (HV3.out.ext (ext_store2 (a := .bool b3) (b := .slice B3 m3 d3) br3.nums) (fun i hi => by subst hi; exact hszr))
  have d0 := br3.cell0
  have d1' := br3.cell1
  have fr := br3.free
  have HSZ := Lib.hid (show g ≤ (w1.alloc (.cells #[.bool b1, .slice B1 m1 d1] 24)).heap.size by omega)
  clear hv3 hb3 hb1 hbA hb1A a0 a1 e0 e1 hszr
  go_wp2_with fail
  refine bodyPost_ret (v := .tuple #[.agg #[.bool b3, (.slice B3 m3 d3)], (.int .i64 E)]) (by
    rw [results_cell_tmp rfl]
    have hld := run_loadVar_row (P := Try.prog) _ r 24 24 #[.bool b3, (.slice B3 m3 d3)] (0, 0) _ br3.store Try.underlying24 rfl (by kernel_rfl)
    simp [asAddr, Result.andThen, hld]) rfl ?_
  rw [HE.out]
  exact ⟨_, rfl, HR.out.since (base' := w.heap.size) (by rw [HW.out]; exact HSZ.out), by rw [HW.out]; exact store2_below HB3.out (by omega)⟩
set_option maxRecDepth 100000 in
theorem limb_Of (n : Int) (w : World) (h1 : -9223372036854775808 ≤ n) (h2 : n < 9223372036854775808) :
    Calls Try.prog 34 #[.int .i64 n] w fun e w' => ∃ v', e = .returned v' ∧ RawAt w' w.heap.size v' (rawOf n) ∧ Below w.heap.size w w' := by
  by_cases hn : n < 0
  · obtain ⟨k, hk⟩ : ∃ k : Nat, n = -(k : Int) := ⟨n.natAbs, by omega⟩
    have HK := Lib.hid hk
    obtain ⟨r, e1, e2⟩ := wrap_minus (k := k) (by omega) (by omega)
    rw [← hk] at e1
    have HW := Lib.hid (show k < W64 by rw [W64_eq]; omega)
    have HN := Lib.hid hn
    clear hk h1 h2
    go_enter Try.func34, Try.ntmps34
    go_wp2_with fail
    have HSG := Lib.hid (show signed true k = n by rw [HK.out]; rfl)
    have hex : ∃ (W : World) (g h : Nat), (w.alloc (.cells #[.bool false, .slice none 0 0] 24)).alloc (.cells #[.int .u64 (k : Int)] 53) = W ∧ w.heap.size = g ∧ w.heap.size + 1 = h ∧ W.heap.size = g + 2 ∧ h = g + 1 ∧ Box2 W g (.bool false) (.slice none 0 0) ∧ Lim W (g + 2) (some ⟨h, 0, none⟩) [k] ∧ Fresh W (g + 1) (some ⟨h, 0, none⟩) 1 ∧ Below g w W := by
      refine ⟨_, _, _, rfl, rfl, rfl, by simp, rfl, ?_, ?_, ?_, ((Below.refl _ _).alloc (Nat.le_refl _) _).alloc (by simp) _⟩
      · unfold Box2
        rw [Below.heap_alloc _ _ _ (by simp)]; exact heap_alloc_new w _
      · have h1 := Lim.one (w := w.alloc (.cells #[.bool false, .slice none 0 0] 24)) HW.out
        simpa using h1
      · have h1 := heap_alloc_new (w.alloc (.cells #[.bool false, .slice none 0 0] 24)) (.cells #[.int .u64 (k : Int)] 53)
        exact .inr ⟨_, _, rfl, Nat.le_refl _, by simpa using h1, by simp⟩
    obtain ⟨W1, g, h, hW1, hg, hh, hsz, hhg, bx, hlim, hfr, hbw⟩ := hex
    rw [hW1, hh]
    have HG := Lib.hid hg
    have HHG := Lib.hid hhg
    rw [hg]
    clear hW1 hh hg hhg
    refine (limb_told' true (some ⟨h, 0, none⟩) 1 1 (g + 1) [k] W1 (by rw [hsz]; exact hlim) hfr rfl (Nat.le_refl _) (by omega)).mono ?_
    rintro e w2 ⟨v2, rfl, hv, hb2⟩
    have e3 : val [k] = k := by simp
    rw [e3, toldF_signed HSG.out] at hv ⊢
    have HLN := Lib.hid (show lc (n).natAbs ≤ 4096 by
      have h1 : (n).natAbs = k := by rw [← HSG.out, signed_natAbs]
      rw [h1]
      exact Nat.le_trans (lc_limb HW.out) (by omega))
    rw [longR_ok HLN.out, longE_ok HLN.out] at hv
    rw [longE_ok HLN.out, longR_ok HLN.out]
    obtain ⟨bv, Av, lv, cv, rfl, HV⟩ := hv.open
    have bx2 := bx.below hb2 bx.lt
    have HB := Lib.hid (show Below g w w2 from hbw.trans (hb2.mono (by omega)))
    have hbA : Below w2.heap.size w2 (w2.alloc (.cells #[.bool bv, .slice Av lv cv] 24)) := (Below.refl _ _).alloc (Nat.le_refl _) _
    have bxA := bx2.below hbA bx2.lt
    have HE := Lib.hid ((HV.out.below hbA).ext (ext_store2 (a := .bool bv) (b := .slice Av lv cv) bxA.nums) (fun i hi => by subst hi; omega))
    have HBA := Lib.hid (HB.out.trans (hbA.mono (by have := hb2.size; omega)))
    have d0 := bxA.cell0
    have d1 := bxA.cell1
    have fr := bxA.free
    clear hv hb2 hbw hlim hfr hbA
    go_wp2_with fail
    refine bodyPost_ret (results_cell_row rfl _ _ g 24 #[.bool bv, (.slice Av lv cv)] (0, 0) _ (by rfl) bxA.store Try.underlying24 rfl (by kernel_rfl)) rfl ?_
    exact ⟨_, rfl, HE.out.since (base' := w.heap.size) (by rw [HG.out]; omega), by rw [HG.out]; exact store2_below HBA.out (Nat.le_refl _)⟩
  · obtain ⟨k, hk⟩ : ∃ k : Nat, n = (k : Int) := ⟨n.natAbs, by omega⟩
    have e1 := wrap_plus (k := k) (by omega)
    subst hk
    have HW := Lib.hid (show k < W64 by rw [W64_eq]; omega)
    clear h1 h2
    go_enter Try.func34, Try.ntmps34
    go_wp2_with fail
    have HSG := Lib.hid (show signed false k = (k : Int) from rfl)
    have hex : ∃ (W : World) (g h : Nat), (w.alloc (.cells #[.bool false, .slice none 0 0] 24)).alloc (.cells #[.int .u64 (k : Int)] 53) = W ∧ w.heap.size = g ∧ w.heap.size + 1 = h ∧ W.heap.size = g + 2 ∧ h = g + 1 ∧ Box2 W g (.bool false) (.slice none 0 0) ∧ Lim W (g + 2) (some ⟨h, 0, none⟩) [k] ∧ Fresh W (g + 1) (some ⟨h, 0, none⟩) 1 ∧ Below g w W := by
      refine ⟨_, _, _, rfl, rfl, rfl, by simp, rfl, ?_, ?_, ?_, ((Below.refl _ _).alloc (Nat.le_refl _) _).alloc (by simp) _⟩
      · unfold Box2
        rw [Below.heap_alloc _ _ _ (by simp)]; exact heap_alloc_new w _
      · have h1 := Lim.one (w := w.alloc (.cells #[.bool false, .slice none 0 0] 24)) HW.out
        simpa using h1
      · have h1 := heap_alloc_new (w.alloc (.cells #[.bool false, .slice none 0 0] 24)) (.cells #[.int .u64 (k : Int)] 53)
        exact .inr ⟨_, _, rfl, Nat.le_refl _, by simpa using h1, by simp⟩
    obtain ⟨W1, g, h, hW1, hg, hh, hsz, hhg, bx, hlim, hfr, hbw⟩ := hex
    rw [hW1, hh]
    have HG := Lib.hid hg
    have HHG := Lib.hid hhg
    rw [hg]
    clear hW1 hh hg hhg
    refine (limb_told' false (some ⟨h, 0, none⟩) 1 1 (g + 1) [k] W1 (by rw [hsz]; exact hlim) hfr rfl (Nat.le_refl _) (by omega)).mono ?_
    rintro e w2 ⟨v2, rfl, hv, hb2⟩
    have e3 : val [k] = k := by simp
    rw [e3, toldF_signed HSG.out] at hv ⊢
    have HLN := Lib.hid (show lc ((k : Int)).natAbs ≤ 4096 by
      have h1 : ((k : Int)).natAbs = k := by rw [← HSG.out, signed_natAbs]
      rw [h1]
      exact Nat.le_trans (lc_limb HW.out) (by omega))
    rw [longR_ok HLN.out, longE_ok HLN.out] at hv
    rw [longE_ok HLN.out, longR_ok HLN.out]
    obtain ⟨bv, Av, lv, cv, rfl, HV⟩ := hv.open
    have bx2 := bx.below hb2 bx.lt
    have HB := Lib.hid (show Below g w w2 from hbw.trans (hb2.mono (by omega)))
    have hbA : Below w2.heap.size w2 (w2.alloc (.cells #[.bool bv, .slice Av lv cv] 24)) := (Below.refl _ _).alloc (Nat.le_refl _) _
    have bxA := bx2.below hbA bx2.lt
    have HE := Lib.hid ((HV.out.below hbA).ext (ext_store2 (a := .bool bv) (b := .slice Av lv cv) bxA.nums) (fun i hi => by subst hi; omega))
    have HBA := Lib.hid (HB.out.trans (hbA.mono (by have := hb2.size; omega)))
    have d0 := bxA.cell0
    have d1 := bxA.cell1
    have fr := bxA.free
    clear hv hb2 hbw hlim hfr hbA
    go_wp2_with fail
    refine bodyPost_ret (results_cell_row rfl _ _ g 24 #[.bool bv, (.slice Av lv cv)] (0, 0) _ (by rfl) bxA.store Try.underlying24 rfl (by kernel_rfl)) rfl ?_
    exact ⟨_, rfl, HE.out.since (base' := w.heap.size) (by rw [HG.out]; omega), by rw [HG.out]; exact store2_below HBA.out (Nat.le_refl _)⟩
end Go.Proofs.Ytonbhpadoplpkaa
