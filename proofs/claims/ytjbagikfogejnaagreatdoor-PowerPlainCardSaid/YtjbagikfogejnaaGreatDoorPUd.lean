import Derived.Test.YtjbagikfogejnaaGreatDoorPUc
import Derived.Test.YtjbagikfogejnaaGreatDoorProg
import Derived.WalkKit
import Derived.Laws.OwnMore
import Derived.Deep.Draws
import Derived.Deep.OwnRows
import Derived.Deep.LoopGhost
import Derived.Deep.QuietTactic
import Derived.BigQuiet
import Derived.Lib.Hide
import Derived.Maps.AppendAt
import Derived.Laws.Rows
import Derived.OneCell
import Derived.Shelf.Spec.BitsCarry
import Derived.Deep.DeepCutAuto
import Derived.Shelf.Small.Bits
import Derived.Shelf.Strconv.Itoa0
import Derived.Shelf.Bits.Mul64
import Derived.Lib.BitFns
import Derived.Deep.CutBlock
import Derived.BigRegion
import Derived.StillTailTactics
import Derived.Deep.AppendLies
import Derived.Orders
import Derived.Lib.SliceRun
import Derived.Deep.MidRow
import Derived.BigCall
import Derived.Laws.AppendOwn
import Derived.Great.BuildSlice
import Derived.Laws.Append
import Derived.Deep.RegionWith
import Derived.WalkMore
import Derived.Laws.EntriesVeiled
import Derived.Laws.CopyOwn
import Derived.Scope
import Derived.Test.YtjbagikfogejnaaGreatDoorRows
import Derived.ProofKit
import Derived.OpenShut
import Derived.Deep.SlicePairs
import Derived.WideKeyArgs
import Derived.Test.YtjbagikfogejnaaGreatDoorCards
import Derived.Test.YtjbagikfogejnaaGreatDoorTie
import Derived.LaidMore
import Derived.Stop.Joined
import Derived.SevenTiedAt
/- Of: Limb3, Div4, Div5, Times, Kar, Kar2, Kar3, Kar4, Gct, GcdP, Grun, Gof. -/
/- The package limb, on: Add, Sub, Of. -/
namespace Go.Proofs.YtjbagikfogejnaaGreatDoor
open Go.RowKit Go.Deep
/-- What is told of a whole number: it, or that it is too long. -/
def longR (z : Int) : Raw := if 4096 < lc z.natAbs then (false, []) else rawOf z
def longE (z : Int) : Int := if 4096 < lc z.natAbs then 3 else 0
theorem longR_ok {z : Int} (h : lc z.natAbs ≤ 4096) : longR z = rawOf z := by unfold longR; rw [if_neg (by omega)]
theorem longE_ok {z : Int} (h : lc z.natAbs ≤ 4096) : longE z = 0 := by unfold longE; rw [if_neg (by omega)]
theorem toldF_signed {neg : Bool} {n : Nat} {z : Int} (h : signed neg n = z) : toldF neg n = (longR z, longE z) := by
  subst h
  unfold longR longE
  rw [signed_natAbs]
  unfold toldF
  split <;> rfl
theorem limb_told' (neg : Bool) (A : Option Addr) (l c base : Nat) (xs : List Nat) (w : World) (h : Lim w w.heap.size A xs) (hf : Fresh w base A c) (hx : l = xs.length) (hc : l ≤ c) (hl : l ≤ 1099511627776) :
    Calls Tryz.prog 88 #[.bool neg, .slice A l c] w fun e w' => ∃ v, e = .returned (.tuple #[v, .int .i64 (toldF neg (val xs)).2]) ∧ RawAt w' base v (toldF neg (val xs)).1 ∧ Below w.heap.size w w' := by
  subst hx
  exact limb_told neg A c base xs w h hf hc hl
set_option maxHeartbeats 1000000 in
set_option maxRecDepth 100000 in
theorem limb_Add (u v : Value) (x y : Int) (w : World) (hx : IntV w u x) (hy : IntV w v y) (lx : lc x.natAbs ≤ 4096) (ly : lc y.natAbs ≤ 4096) :
    Calls Tryz.prog 45 #[u, v] w fun e w' => ∃ v', e = .returned (.tuple #[v', .int .i64 (longE (x + y))]) ∧ RawAt w' w.heap.size v' (longR (x + y)) ∧ Below w.heap.size w w' := by
  obtain ⟨A1, l1, c1, rfl, hl1, hc1, hlim1⟩ := hx
  obtain ⟨A2, l2, c2, rfl, hl2, hc2, hlim2⟩ := hy
  have HR1 := Lib.hid (right_of lx)
  have HR2 := Lib.hid (right_of ly)
  have HL1 := Lib.hid hl1
  have HL2 := Lib.hid hl2
  have hI1 : (l1 : Int) ≤ 4096 := by unfold lc at lx; omega
  have hI2 : (l2 : Int) ≤ 4096 := by unfold lc at ly; omega
  have HX := Lib.hid lx
  have HY := Lib.hid ly
  clear hl1 hl2 lx ly
  obtain ⟨s1, hs1⟩ : ∃ s, decide (x < 0) = s := ⟨_, rfl⟩
  obtain ⟨s2, hs2⟩ : ∃ s, decide (y < 0) = s := ⟨_, rfl⟩
  have HS1 := Lib.hid hs1
  have HS2 := Lib.hid hs2
  rw [hs1, hs2]
  clear hs1 hs2
  go_enter Tryz.func45, Tryz.ntmps45
  go_wp2_with fail
  obtain ⟨W0, g, h, r, hW, hg, hh, hr, hgr, bx, by_, br, hbw, hsz⟩ := box_three w (.bool s1) (.slice A1 l1 c1) (.bool s2) (.slice A2 l2 c2) (.bool false) (.slice none 0 0)
  have HW := Lib.hid (show w.heap.size = g from hg)
  rw [hW, hr, hh, hg]
  have k1 := ((hg ▸ hlim1 : Lim w g A1 (limbs x.natAbs)).below hbw)
  have k2 := ((hg ▸ hlim2 : Lim w g A2 (limbs y.natAbs)).below hbw)
  clear hW hr hg hh hlim1 hlim2
  refine (limb_right s1 A1 l1 c1 (limbs x.natAbs) W0 (by omega) k1 HL1.out).mono ?_
  rintro e w1 ⟨rfl, hb1⟩
  rw [← HS1.out, HR1.out, HS1.out]
  have bx := bx.below hb1 bx.lt
  have by_ := by_.below hb1 by_.lt
  have br := br.below hb1 br.lt
  have hbw1 := hbw.trans (hb1.mono (by omega))
  have k1 := k1.below (hb1.mono (by omega))
  have k2 := k2.below (hb1.mono (by omega))
  have hsz1 := hb1.size
  have a0 := bx.cell0
  have a1 := bx.cell1
  have b0 := by_.cell0
  have b1 := by_.cell1
  clear hb1
  go_wp2_with fail
  refine (limb_right s2 A2 l2 c2 (limbs y.natAbs) w1 (by omega) k2 HL2.out).mono ?_
  rintro e w2 ⟨rfl, hb2⟩
  rw [← HS2.out, HR2.out, HS2.out]
  have bx := bx.below hb2 bx.lt
  have by_ := by_.below hb2 by_.lt
  have br := br.below hb2 br.lt
  have hbw2 := hbw1.trans (hb2.mono (by omega))
  have k1 := k1.below (hb2.mono (by omega))
  have k2 := k2.below (hb2.mono (by omega))
  have hsz2 := hb2.size
  clear hb2 a0 a1 b0 b1 hbw1 hbw
  have a0 := bx.cell0
  have a1 := bx.cell1
  have b0 := by_.cell0
  have b1 := by_.cell1
  go_wp2_with fail
  refine (limb_sizes A1 A2 l1 l2 c1 c2 x.natAbs y.natAbs w2 k1 k2 HL1.out HL2.out (by omega) (by omega)).mono ?_
  rintro e w3 ⟨q, rfl, hq, n, rfl⟩
  have bx : Box2 (w2.drewN n) g (.bool s1) (.slice A1 l1 c1) := bx
  have by_ : Box2 (w2.drewN n) h (.bool s2) (.slice A2 l2 c2) := by_
  have br : Box2 (w2.drewN n) r (.bool false) (.slice none 0 0) := br
  have hbw3 := below_drewN hbw2 n
  have k1 := k1.drewN n
  have k2 := k2.drewN n
  have hsz3 : g + 3 ≤ (w2.drewN n).heap.size := by show g + 3 ≤ w2.heap.size; omega
  generalize w2.drewN n = w3 at bx by_ br hbw3 k1 k2 hsz3 ⊢
  clear a0 a1 b0 b1 hbw2 hsz1 hsz2 hsz
  have a0 := bx.cell0
  have a1 := bx.cell1
  have b0 := by_.cell0
  have b1 := by_.cell1
  have fa := bx.free
  have fb := by_.free
  have HB := Lib.hid hbw3
  have BR := Lib.hid br
  have BX := Lib.hid bx
  have BY := Lib.hid by_
  have HQ := Lib.hid hq
  have K1 := Lib.hid k1
  have K2 := Lib.hid k2
  clear hbw3 br bx by_ hq k1 k2 HR1 HR2
  go_upto_if 25 with (fail)
  go_cut [5] (fun s5 wx => s5 = .int .i64 0 ∧ ∃ (t1 t2 : Bool) (B1 B2 : Option Addr) (m1 m2 d1 d2 : Nat) (X Y : Nat), Box2 wx g (.bool t1) (.slice B1 m1 d1) ∧ Box2 wx h (.bool t2) (.slice B2 m2 d2) ∧ Box2 wx r (.bool false) (.slice none 0 0) ∧ Below g w wx ∧
    Lim wx g B1 (limbs X) ∧ Lim wx g B2 (limbs Y) ∧ m1 = lc X ∧ m2 = lc Y ∧ Y ≤ X ∧ lc X ≤ 4096 ∧ signed t1 X + signed t2 Y = x + y ∧ (Y = 0 → t2 = false))
  case first =>
    by_cases hq0 : q < 0
    · go_wp2_with fail
      go_meet
      have hle := (HQ.out.1.1 hq0)
      refine ⟨rfl, s2, s1, A2, A1, l2, l1, c2, c1, y.natAbs, x.natAbs, BX.out.store.far (by omega), (BY.out.far (by omega)).store, (BR.out.far (by omega)).far (by omega), store2_below (store2_below HB.out (Nat.le_refl _)) (by omega), ((K2.out.setCell (p := ⟨g, 0, none⟩) (Nat.le_refl _) _).setCell (p := ⟨g, 1, none⟩) (Nat.le_refl _) _).setCell (p := ⟨h, 0, none⟩) (by show g ≤ h; omega) _ |>.setCell (p := ⟨h, 1, none⟩) (by show g ≤ h; omega) _,
        ((K1.out.setCell (p := ⟨g, 0, none⟩) (Nat.le_refl _) _).setCell (p := ⟨g, 1, none⟩) (Nat.le_refl _) _).setCell (p := ⟨h, 0, none⟩) (by show g ≤ h; omega) _ |>.setCell (p := ⟨h, 1, none⟩) (by show g ≤ h; omega) _, HL2.out, HL1.out, by omega, HY.out, ?_, fun h0 => ?_⟩
      · rw [← HS1.out, ← HS2.out, signed_of, signed_of]; omega
      · rw [← HS1.out]; exact decide_eq_false (by omega)
    · go_wp2_with fail
      go_meet
      have hle : ¬ x.natAbs < y.natAbs := fun h => by have := HQ.out.1.2 h; omega
      refine ⟨rfl, s1, s2, A1, A2, l1, l2, c1, c2, x.natAbs, y.natAbs, BX.out, BY.out, BR.out, HB.out, K1.out, K2.out, HL1.out, HL2.out, by omega, HX.out, ?_, fun h0 => ?_⟩
      · rw [← HS1.out, ← HS2.out, signed_of, signed_of]
      · rw [← HS2.out]; exact decide_eq_false (by omega)
  case rest =>
  clear bx by_ br k1 k2 HB BR BX BY HQ K1 K2 hsz3
  obtain ⟨rfl, t1, t2, B1, B2, m1, m2, d1, d2, X, Y, bx, by_, br, hbw, k1, k2, hm1, hm2, hYX, hXl, hsum, h0⟩ := hcut
  have hmI : (m1 : Int) ≤ 4096 := by omega
  have HM1 := Lib.hid hm1
  have HM2 := Lib.hid hm2
  have HYX := Lib.hid hYX
  have HS := Lib.hid hsum
  have H0 := Lib.hid h0
  have hszg := by_.lt
  have hszr := br.lt
  have hmk := make_limbs_succ m1 (by omega)
  have a0 := bx.cell0
  have a1 := bx.cell1
  have b0 := by_.cell0
  have b1 := by_.cell1
  have HML := Lib.hid (show m2 ≤ m1 by rw [hm1, hm2]; exact lc_mono hYX)
  clear hm1 hm2 hYX hXl hsum h0
  go_wp2_with fail
  refine (limb_behind B2 m2 d2 _).mono ?_
  rintro e w5 ⟨rfl, rfl⟩
  have hex : ∃ (W : World) (O C : Nat), (wc.alloc (.cells (madeCells #[.int .u64 0] (m1 + 1)) 41)).alloc (.cells #[.slice B2 m2 d2] 22) = W ∧ wc.heap.size = O ∧ (wc.alloc (.cells (madeCells #[.int .u64 0] (m1 + 1)) 41)).heap.size = C ∧ C = O + 1 ∧ W.heap.size = O + 2 ∧ Row W O (List.replicate (m1 + 1) 0) ∧ Fresh W O (some ⟨O, 0, none⟩) (m1 + 1) ∧ W.cell? ⟨C, 0, none⟩ = some (.slice B2 m2 d2) ∧ Below O wc W := by
    refine ⟨_, _, _, rfl, rfl, rfl, by simp, by simp, (Row.made wc (m1 + 1)).alloc _, (Fresh.made wc (m1 + 1)).below ((Below.refl _ _).alloc (Nat.le_refl _) _), ?_, ((Below.refl _ _).alloc (Nat.le_refl _) _).alloc (by simp) _⟩
    rw [cell_of_row _ _ 0 #[.slice B2 m2 d2] 22 (0, 0) (heap_alloc_new _ _)]
    rfl
  obtain ⟨W5, O, C, hW5, hO, hC, hCO, hsz5, hrow0, hfr0, hcC, hb5⟩ := hex
  rw [hW5, hO, hC]
  have bx5 := bx.below hb5 (by have := bx.lt; omega)
  have by5 := by_.below hb5 (by omega)
  have br5 := br.below hb5 (by omega)
  have k1 := k1.below (hb5.mono (by omega))
  have k2 := k2.below (hb5.mono (by omega))
  have hbw5 : Below g w W5 := hbw.trans (hb5.mono (by omega))
  have hgO : g + 3 ≤ O := by omega
  have HCO := Lib.hid hCO
  clear hCO hW5 hO hC bx by_ br hbw a0 a1 b0 b1 hb5 hmk
  have a0 := bx5.cell0
  have a1 := bx5.cell1
  have b0 := by5.cell0
  have b1 := by5.cell1
  have HBX := Lib.hid bx5
  have HBY := Lib.hid by5
  have HBR := Lib.hid br5
  have HBW := Lib.hid hbw5
  have hXs := small_limbs X
  have hYs := small_limbs Y
  have hXv := val_limbs X
  have hYv := val_limbs Y
  have hm1 : m1 = (limbs X).length := HM1.out
  have hm2 : m2 = (limbs Y).length := HM2.out
  generalize limbs X = xs at *
  generalize limbs Y = ys at *
  have HM1 := Lib.hid hm1
  have HM2 := Lib.hid hm2
  have HXV := Lib.hid hXv
  have HYV := Lib.hid hYv
  clear hm1 hm2 hXv hYv bx5 by5 br5 hbw5
  by_cases hs : t1 = t2
  · subst hs
    have tt : (t1 == t1) = true := by simp
    have HSG := Lib.hid (show signed t1 (X + Y) = x + y by rw [← HS.out, signed_add_same])
    go_wp2_with fail
    go_loopw [8, 39] (fun t6 t23 wr => ∃ (k c : Nat) (os : List Nat), k ≤ m1 ∧ c ≤ 1 ∧ os.length = m1 + 1 ∧ t6 = .int .u64 (c : Int) ∧ t23 = .int .i64 (k : Int) ∧ Row wr O os ∧ Fresh wr O (some ⟨O, 0, none⟩) (m1 + 1) ∧ (∀ p : Addr, p.block ≠ O → wr.cell? p = W5.cell? p) ∧ Below O W5 wr ∧ wr.heap.size = W5.heap.size ∧ wr.heap[r]? = W5.heap[r]? ∧ val (os.take k) + W64 ^ k * c = val (xs.take k) + val (ys.take k)) (fun _ t23 _ => m1 - (intOf t23).toNat)
    case atStart =>
      exact ⟨0, 0, List.replicate (m1 + 1) 0, by omega, by omega, by simp, rfl, rfl, hrow0, hfr0, fun _ _ => rfl, Below.refl _ _, rfl, rfl, by simp⟩
    case round =>
      clear a0 a1 b0 b1
      obtain ⟨k, c, os, hk, hc, ho, rfl, rfl, hrow, hfr, hkeep, hbel, hszw, hrr, hval⟩ := hrel
      have HV := Lib.hid hval
      have HO := Lib.hid ho
      have HK := Lib.hid hkeep
      have HRR := Lib.hid hrr
      have a0 := (hkeep ⟨g, 0, none⟩ (by show ¬ g = O; omega)).trans HBX.out.cell0
      have a1 := (hkeep ⟨g, 1, none⟩ (by show ¬ g = O; omega)).trans HBX.out.cell1
      have b0 := (hkeep ⟨h, 0, none⟩ (by show ¬ h = O; omega)).trans HBY.out.cell0
      have b1 := (hkeep ⟨h, 1, none⟩ (by show ¬ h = O; omega)).trans HBY.out.cell1
      have hcC' := (hkeep ⟨C, 0, none⟩ (by have := HCO.out; show ¬ C = O; omega)).trans hcC
      have hbelg : Below g W5 wr := hbel.mono (by omega)
      have HFR := Lib.hid hfr
      clear hval ho hkeep hrr hfr
      by_cases hlt : k < m1
      · obtain ⟨ad, hB1, hb, hcell⟩ := (k1.below hbelg).at_ (k := k) (by rw [← HM1.out]; exact hlt)
        subst hB1
        obtain ⟨x0, hx⟩ : ∃ x0, xs.getD k 0 = x0 := ⟨_, rfl⟩
        obtain ⟨y0, hy⟩ : ∃ y0, ys.getD k 0 = y0 := ⟨_, rfl⟩
        have hxs : x0 < W64 := hx ▸ hXs.getD k
        have hys : y0 < W64 := hy ▸ hYs.getD k
        rw [hx] at hcell
        have hcg := hrow.cell (k := k) (by rw [HO.out]; omega)
        have hfg := hrow.free k
        have HS := Lib.hid (show val ((os.set k (addLo x0 y0 c)).take (k + 1)) + W64 ^ (k + 1) * (addHi x0 y0 c) = val (xs.take (k + 1)) + val (ys.take (k + 1)) by
          have hV := HV.out
          have hs := add_split x0 y0 c
          rw [val_take_set os k _ (by rw [HO.out]; omega), val_take_step xs, val_take_step ys, hx, hy, Nat.pow_succ]
          generalize val (os.take k) = a1 at *
          generalize val (xs.take k) = a2 at *
          generalize val (ys.take k) = a3 at *
          generalize W64 ^ k = P at *
          have : P * (addLo x0 y0 c + W64 * addHi x0 y0 c) = P * (x0 + y0 + c) := by rw [hs]
          grind)
        have HXX := Lib.hid hx
        have HYY := Lib.hid hy
        have hset := hrow.set (k := k) (x := addLo x0 y0 c) (by rw [HO.out]; omega) (addLo_lt _ _ _)
        have hc' := addHi_le hxs hys hc
        have hbel' := hbel.setCell (p := ⟨O, k, none⟩) (Nat.le_refl _) (.int .u64 (addLo x0 y0 c : Int))
        have HL := Lib.hid (show (os.set k (addLo x0 y0 c)).length = m1 + 1 by rw [List.length_set, HO.out])
        have hrun := add64_run x0 y0 c hc
        have hlI : (k : Int) < (m1 : Int) := by omega
        have hklc : k < m1 + 1 := by omega
        have HKK := Lib.hid (fun (p : Addr) (hp : p.block ≠ O) => show (wr.setCell ⟨O, k, none⟩ (.int .u64 (addLo x0 y0 c : Int))).cell? p = W5.cell? p from (cell_of_block (Below.heap_setCell _ _ _ p.block (by simpa using hp))).trans (HK.out p hp))
        have HR2 := Lib.hid (show (wr.setCell ⟨O, k, none⟩ (.int .u64 (addLo x0 y0 c : Int))).heap[r]? = W5.heap[r]? from (Below.heap_setCell _ _ _ r (by show ¬ r = O; omega)).trans HRR.out)
        clear hx hy
        go_wp2_with fail
        refine (limb_behind1 k C m2 d2 B2 ys wr hcC' (k2.below hbelg) HM2.out (by have := HML.out; omega)).mono ?_
        rintro e w6 ⟨rfl, rfl⟩
        rw [HYY.out]
        go_wp2_with fail
        exact ⟨⟨k + 1, _, _, by omega, hc', HL.out, rfl, by go_num, hset, HFR.out.set _ _ _, HKK.out, hbel', by simpa using hszw, HR2.out, HS.out⟩, by simp [intOf]; omega⟩
      · obtain rfl : k = m1 := by omega
        have hcg := hrow.cell (k := k) (by rw [HO.out]; omega)
        have hfg := hrow.free k
        have hcW : c < W64 := by rw [W64_eq]; omega
        have hset := hrow.set (k := k) (x := c) (by rw [HO.out]; omega) hcW
        have hbel' := hbel.setCell (p := ⟨O, k, none⟩) (Nat.le_refl _) (.int .u64 (c : Int))
        have HL := Lib.hid (show (os.set k c).length = k + 1 by rw [List.length_set, HO.out])
        have HF := Lib.hid (show val (os.set k c) = X + Y by
          have hV := HV.out
          have e1 := val_take_set os k c (by rw [HO.out]; omega)
          rw [List.take_of_length_le (by rw [List.length_set, HO.out]; omega)] at e1
          rw [List.take_of_length_le (l := xs) (by rw [← HM1.out]; omega), List.take_of_length_le (l := ys) (by rw [← HM2.out]; exact HML.out), HXV.out, HYV.out] at hV
          omega)
        have hRR : Box2 (wr.setCell ⟨O, k, none⟩ (.int .u64 (c : Int))) r (.bool false) (.slice none 0 0) := by
          unfold Box2
          rw [Below.heap_setCell _ _ _ r (by show ¬ r = O; omega), HRR.out]
          exact HBR.out
        have HRW := Lib.hid hRR
        have hszc : (wr.setCell ⟨O, k, none⟩ (.int .u64 (c : Int))).heap.size = O + 2 := by simpa [hsz5] using hszw
        have hfresh : Fresh (wr.setCell ⟨O, k, none⟩ (.int .u64 (c : Int))) O (some ⟨O, 0, none⟩) (k + 1) := HFR.out.set _ _ _
        clear hRR
        go_wp2_with fail
        refine (limb_told' t1 (some ⟨O, 0, none⟩) (k + 1) (k + 1) O (os.set k c) (wr.setCell ⟨O, k, none⟩ (.int .u64 (c : Int))) (hset.lim (by omega)) hfresh HL.out.symm (Nat.le_refl _) (by omega)).mono ?_
        rintro e w7 ⟨v7, rfl, hv7, hb7⟩
        rw [HF.out, toldF_signed HSG.out] at hv7 ⊢
        obtain ⟨E, hE⟩ : ∃ E : Int, longE (x + y) = E := ⟨_, rfl⟩
        have HE := Lib.hid hE
        simp only [hE]
        clear hE
        obtain ⟨bv, Av, lv, cv, rfl, HV7⟩ := hv7.open
        clear hv7
        have br7 : Box2 w7 r (.bool false) (.slice none 0 0) := HRW.out.below hb7 HRW.out.lt
        have HBF := Lib.hid (show Below g w w7 from (HBW.out.trans (hbel'.mono (by omega))).trans (hb7.mono (by omega)))
        have HRL := Lib.hid (show r < O by omega)
        have d0 := br7.cell0
        have d1 := br7.cell1
        have fr := br7.free
        have HE7 := Lib.hid (HV7.out.ext (ext_store2 (a := .bool bv) (b := .slice Av lv cv) br7.nums) (fun i hi => by subst hi; exact HRL.out))
        clear hb7
        go_wp2_with fail
        refine bodyPost_ret (v := .tuple #[.agg #[.bool bv, (.slice Av lv cv)], (.int .i64 E)]) (by
          rw [results_cell_tmp rfl]
          have hld := run_loadVar_row (P := Tryz.prog) _ r 24 24 #[.bool bv, (.slice Av lv cv)] (0, 0) _ br7.store Tryz.underlying24 rfl (by kernel_rfl)
          simp [asAddr, Result.andThen, hld]) rfl ?_
        rw [HE.out]
        exact ⟨_, rfl, HE7.out.since (base' := w.heap.size) (by rw [HW.out]; omega), by rw [HW.out]; exact store2_below HBF.out (by omega)⟩
  · have tt : (t1 == t2) = false := by simpa using hs
    have HNE := Lib.hid hs
    clear hs
    by_cases hz : m2 = 0
    · have tz : ((m2 : Int) == 0) = true := by simp [hz]
      have hz := Lib.hid hz
      have HSG := Lib.hid (show signed t1 (X + Y) = x + y by
        have h1 : ys = [] := List.eq_nil_of_length_eq_zero (HM2.out.symm.trans hz.out)
        have h2 := HYV.out
        rw [h1] at h2
        have h3 : Y = 0 := h2.symm
        rw [← HS.out, h3]
        cases t2 <;> simp [signed])
      go_wp2_with fail
      go_loopw [8, 39] (fun t6 t23 wr => ∃ (k c : Nat) (os : List Nat), k ≤ m1 ∧ c ≤ 1 ∧ os.length = m1 + 1 ∧ t6 = .int .u64 (c : Int) ∧ t23 = .int .i64 (k : Int) ∧ Row wr O os ∧ Fresh wr O (some ⟨O, 0, none⟩) (m1 + 1) ∧ (∀ p : Addr, p.block ≠ O → wr.cell? p = W5.cell? p) ∧ Below O W5 wr ∧ wr.heap.size = W5.heap.size ∧ wr.heap[r]? = W5.heap[r]? ∧ val (os.take k) + W64 ^ k * c = val (xs.take k) + val (ys.take k)) (fun _ t23 _ => m1 - (intOf t23).toNat)
      case atStart =>
        exact ⟨0, 0, List.replicate (m1 + 1) 0, by omega, by omega, by simp, rfl, rfl, hrow0, hfr0, fun _ _ => rfl, Below.refl _ _, rfl, rfl, by simp⟩
      case round =>
        clear a0 a1 b0 b1
        obtain ⟨k, c, os, hk, hc, ho, rfl, rfl, hrow, hfr, hkeep, hbel, hszw, hrr, hval⟩ := hrel
        have HV := Lib.hid hval
        have HO := Lib.hid ho
        have HK := Lib.hid hkeep
        have HRR := Lib.hid hrr
        have a0 := (hkeep ⟨g, 0, none⟩ (by show ¬ g = O; omega)).trans HBX.out.cell0
        have a1 := (hkeep ⟨g, 1, none⟩ (by show ¬ g = O; omega)).trans HBX.out.cell1
        have b0 := (hkeep ⟨h, 0, none⟩ (by show ¬ h = O; omega)).trans HBY.out.cell0
        have b1 := (hkeep ⟨h, 1, none⟩ (by show ¬ h = O; omega)).trans HBY.out.cell1
        have hcC' := (hkeep ⟨C, 0, none⟩ (by have := HCO.out; show ¬ C = O; omega)).trans hcC
        have hbelg : Below g W5 wr := hbel.mono (by omega)
        have HFR := Lib.hid hfr
        clear hval ho hkeep hrr hfr
        by_cases hlt : k < m1
        · obtain ⟨ad, hB1, hb, hcell⟩ := (k1.below hbelg).at_ (k := k) (by rw [← HM1.out]; exact hlt)
          subst hB1
          obtain ⟨x0, hx⟩ : ∃ x0, xs.getD k 0 = x0 := ⟨_, rfl⟩
          obtain ⟨y0, hy⟩ : ∃ y0, ys.getD k 0 = y0 := ⟨_, rfl⟩
          have hxs : x0 < W64 := hx ▸ hXs.getD k
          have hys : y0 < W64 := hy ▸ hYs.getD k
          rw [hx] at hcell
          have hcg := hrow.cell (k := k) (by rw [HO.out]; omega)
          have hfg := hrow.free k
          have HS := Lib.hid (show val ((os.set k (addLo x0 y0 c)).take (k + 1)) + W64 ^ (k + 1) * (addHi x0 y0 c) = val (xs.take (k + 1)) + val (ys.take (k + 1)) by
            have hV := HV.out
            have hs := add_split x0 y0 c
            rw [val_take_set os k _ (by rw [HO.out]; omega), val_take_step xs, val_take_step ys, hx, hy, Nat.pow_succ]
            generalize val (os.take k) = a1 at *
            generalize val (xs.take k) = a2 at *
            generalize val (ys.take k) = a3 at *
            generalize W64 ^ k = P at *
            have : P * (addLo x0 y0 c + W64 * addHi x0 y0 c) = P * (x0 + y0 + c) := by rw [hs]
            grind)
          have HXX := Lib.hid hx
          have HYY := Lib.hid hy
          have hset := hrow.set (k := k) (x := addLo x0 y0 c) (by rw [HO.out]; omega) (addLo_lt _ _ _)
          have hc' := addHi_le hxs hys hc
          have hbel' := hbel.setCell (p := ⟨O, k, none⟩) (Nat.le_refl _) (.int .u64 (addLo x0 y0 c : Int))
          have HL := Lib.hid (show (os.set k (addLo x0 y0 c)).length = m1 + 1 by rw [List.length_set, HO.out])
          have hrun := add64_run x0 y0 c hc
          have hlI : (k : Int) < (m1 : Int) := by omega
          have hklc : k < m1 + 1 := by omega
          have HKK := Lib.hid (fun (p : Addr) (hp : p.block ≠ O) => show (wr.setCell ⟨O, k, none⟩ (.int .u64 (addLo x0 y0 c : Int))).cell? p = W5.cell? p from (cell_of_block (Below.heap_setCell _ _ _ p.block (by simpa using hp))).trans (HK.out p hp))
          have HR2 := Lib.hid (show (wr.setCell ⟨O, k, none⟩ (.int .u64 (addLo x0 y0 c : Int))).heap[r]? = W5.heap[r]? from (Below.heap_setCell _ _ _ r (by show ¬ r = O; omega)).trans HRR.out)
          clear hx hy
          go_wp2_with fail
          refine (limb_behind1 k C m2 d2 B2 ys wr hcC' (k2.below hbelg) HM2.out (by have := HML.out; omega)).mono ?_
          rintro e w6 ⟨rfl, rfl⟩
          rw [HYY.out]
          go_wp2_with fail
          exact ⟨⟨k + 1, _, _, by omega, hc', HL.out, rfl, by go_num, hset, HFR.out.set _ _ _, HKK.out, hbel', by simpa using hszw, HR2.out, HS.out⟩, by simp [intOf]; omega⟩
        · obtain rfl : k = m1 := by omega
          have hcg := hrow.cell (k := k) (by rw [HO.out]; omega)
          have hfg := hrow.free k
          have hcW : c < W64 := by rw [W64_eq]; omega
          have hset := hrow.set (k := k) (x := c) (by rw [HO.out]; omega) hcW
          have hbel' := hbel.setCell (p := ⟨O, k, none⟩) (Nat.le_refl _) (.int .u64 (c : Int))
          have HL := Lib.hid (show (os.set k c).length = k + 1 by rw [List.length_set, HO.out])
          have HF := Lib.hid (show val (os.set k c) = X + Y by
            have hV := HV.out
            have e1 := val_take_set os k c (by rw [HO.out]; omega)
            rw [List.take_of_length_le (by rw [List.length_set, HO.out]; omega)] at e1
            rw [List.take_of_length_le (l := xs) (by rw [← HM1.out]; omega), List.take_of_length_le (l := ys) (by rw [← HM2.out]; exact HML.out), HXV.out, HYV.out] at hV
            omega)
          have hRR : Box2 (wr.setCell ⟨O, k, none⟩ (.int .u64 (c : Int))) r (.bool false) (.slice none 0 0) := by
            unfold Box2
            rw [Below.heap_setCell _ _ _ r (by show ¬ r = O; omega), HRR.out]
            exact HBR.out
          have HRW := Lib.hid hRR
          have hszc : (wr.setCell ⟨O, k, none⟩ (.int .u64 (c : Int))).heap.size = O + 2 := by simpa [hsz5] using hszw
          have hfresh : Fresh (wr.setCell ⟨O, k, none⟩ (.int .u64 (c : Int))) O (some ⟨O, 0, none⟩) (k + 1) := HFR.out.set _ _ _
          clear hRR
          go_wp2_with fail
          refine (limb_told' t1 (some ⟨O, 0, none⟩) (k + 1) (k + 1) O (os.set k c) (wr.setCell ⟨O, k, none⟩ (.int .u64 (c : Int))) (hset.lim (by omega)) hfresh HL.out.symm (Nat.le_refl _) (by omega)).mono ?_
          rintro e w7 ⟨v7, rfl, hv7, hb7⟩
          rw [HF.out, toldF_signed HSG.out] at hv7 ⊢
          obtain ⟨E, hE⟩ : ∃ E : Int, longE (x + y) = E := ⟨_, rfl⟩
          have HE := Lib.hid hE
          simp only [hE]
          clear hE
          obtain ⟨bv, Av, lv, cv, rfl, HV7⟩ := hv7.open
          clear hv7
          have br7 : Box2 w7 r (.bool false) (.slice none 0 0) := HRW.out.below hb7 HRW.out.lt
          have HBF := Lib.hid (show Below g w w7 from (HBW.out.trans (hbel'.mono (by omega))).trans (hb7.mono (by omega)))
          have HRL := Lib.hid (show r < O by omega)
          have d0 := br7.cell0
          have d1 := br7.cell1
          have fr := br7.free
          have HE7 := Lib.hid (HV7.out.ext (ext_store2 (a := .bool bv) (b := .slice Av lv cv) br7.nums) (fun i hi => by subst hi; exact HRL.out))
          clear hb7
          go_wp2_with fail
          refine bodyPost_ret (v := .tuple #[.agg #[.bool bv, (.slice Av lv cv)], (.int .i64 E)]) (by
            rw [results_cell_tmp rfl]
            have hld := run_loadVar_row (P := Tryz.prog) _ r 24 24 #[.bool bv, (.slice Av lv cv)] (0, 0) _ br7.store Tryz.underlying24 rfl (by kernel_rfl)
            simp [asAddr, Result.andThen, hld]) rfl ?_
          rw [HE.out]
          exact ⟨_, rfl, HE7.out.since (base' := w.heap.size) (by rw [HW.out]; omega), by rw [HW.out]; exact store2_below HBF.out (by omega)⟩
    · have tz : ((m2 : Int) == 0) = false := beq_eq_false_iff_ne.2 (by omega)
      have HSG := Lib.hid (show signed t1 (X - Y) = x + y by rw [← HS.out, signed_add_ge tt HYX.out])
      clear hz
      go_wp2_with fail
      go_loopw [8, 39] (fun t6 t23 wr => ∃ (k c : Nat) (os : List Nat), k ≤ m1 ∧ c ≤ 1 ∧ os.length = m1 + 1 ∧ t6 = .int .u64 (c : Int) ∧ t23 = .int .i64 (k : Int) ∧ Row wr O os ∧ Fresh wr O (some ⟨O, 0, none⟩) (m1 + 1) ∧ (∀ p : Addr, p.block ≠ O → wr.cell? p = W5.cell? p) ∧ Below O W5 wr ∧ wr.heap.size = W5.heap.size ∧ wr.heap[r]? = W5.heap[r]? ∧ val (os.take k) + val (ys.take k) = val (xs.take k) + W64 ^ k * c) (fun _ t23 _ => m1 - (intOf t23).toNat)
      case atStart =>
        exact ⟨0, 0, List.replicate (m1 + 1) 0, by omega, by omega, by simp, rfl, rfl, hrow0, hfr0, fun _ _ => rfl, Below.refl _ _, rfl, rfl, by simp⟩
      case round =>
        clear a0 a1 b0 b1
        obtain ⟨k, c, os, hk, hc, ho, rfl, rfl, hrow, hfr, hkeep, hbel, hszw, hrr, hval⟩ := hrel
        have HV := Lib.hid hval
        have HO := Lib.hid ho
        have HK := Lib.hid hkeep
        have HRR := Lib.hid hrr
        have a0 := (hkeep ⟨g, 0, none⟩ (by show ¬ g = O; omega)).trans HBX.out.cell0
        have a1 := (hkeep ⟨g, 1, none⟩ (by show ¬ g = O; omega)).trans HBX.out.cell1
        have b0 := (hkeep ⟨h, 0, none⟩ (by show ¬ h = O; omega)).trans HBY.out.cell0
        have b1 := (hkeep ⟨h, 1, none⟩ (by show ¬ h = O; omega)).trans HBY.out.cell1
        have hcC' := (hkeep ⟨C, 0, none⟩ (by have := HCO.out; show ¬ C = O; omega)).trans hcC
        have hbelg : Below g W5 wr := hbel.mono (by omega)
        have HFR := Lib.hid hfr
        clear hval ho hkeep hrr hfr
        by_cases hlt : k < m1
        · obtain ⟨ad, hB1, hb, hcell⟩ := (k1.below hbelg).at_ (k := k) (by rw [← HM1.out]; exact hlt)
          subst hB1
          obtain ⟨x0, hx⟩ : ∃ x0, xs.getD k 0 = x0 := ⟨_, rfl⟩
          obtain ⟨y0, hy⟩ : ∃ y0, ys.getD k 0 = y0 := ⟨_, rfl⟩
          have hxs : x0 < W64 := hx ▸ hXs.getD k
          have hys : y0 < W64 := hy ▸ hYs.getD k
          rw [hx] at hcell
          have hcg := hrow.cell (k := k) (by rw [HO.out]; omega)
          have hfg := hrow.free k
          have HS := Lib.hid (show val ((os.set k (subLo x0 y0 c)).take (k + 1)) + val (ys.take (k + 1)) = val (xs.take (k + 1)) + W64 ^ (k + 1) * (subHi x0 y0 c) by
            have hV := HV.out
            have hs := sub_split hxs hys hc
            rw [val_take_set os k _ (by rw [HO.out]; omega), val_take_step xs, val_take_step ys, hx, hy, Nat.pow_succ]
            generalize val (os.take k) = a1 at *
            generalize val (xs.take k) = a2 at *
            generalize val (ys.take k) = a3 at *
            generalize W64 ^ k = P at *
            have : P * (subLo x0 y0 c + y0 + c) = P * (x0 + W64 * subHi x0 y0 c) := by rw [hs]
            grind)
          have HXX := Lib.hid hx
          have HYY := Lib.hid hy
          have hset := hrow.set (k := k) (x := subLo x0 y0 c) (by rw [HO.out]; omega) (subLo_lt _ _ _)
          have hc' := subHi_le x0 y0 c
          have hbel' := hbel.setCell (p := ⟨O, k, none⟩) (Nat.le_refl _) (.int .u64 (subLo x0 y0 c : Int))
          have HL := Lib.hid (show (os.set k (subLo x0 y0 c)).length = m1 + 1 by rw [List.length_set, HO.out])
          have hrun := sub64_run x0 y0 c hc
          have hlI : (k : Int) < (m1 : Int) := by omega
          have hklc : k < m1 + 1 := by omega
          have HKK := Lib.hid (fun (p : Addr) (hp : p.block ≠ O) => show (wr.setCell ⟨O, k, none⟩ (.int .u64 (subLo x0 y0 c : Int))).cell? p = W5.cell? p from (cell_of_block (Below.heap_setCell _ _ _ p.block (by simpa using hp))).trans (HK.out p hp))
          have HR2 := Lib.hid (show (wr.setCell ⟨O, k, none⟩ (.int .u64 (subLo x0 y0 c : Int))).heap[r]? = W5.heap[r]? from (Below.heap_setCell _ _ _ r (by show ¬ r = O; omega)).trans HRR.out)
          clear hx hy
          go_wp2_with fail
          refine (limb_behind1 k C m2 d2 B2 ys wr hcC' (k2.below hbelg) HM2.out (by have := HML.out; omega)).mono ?_
          rintro e w6 ⟨rfl, rfl⟩
          rw [HYY.out]
          go_wp2_with fail
          exact ⟨⟨k + 1, _, _, by omega, hc', HL.out, rfl, by go_num, hset, HFR.out.set _ _ _, HKK.out, hbel', by simpa using hszw, HR2.out, HS.out⟩, by simp [intOf]; omega⟩
        · obtain rfl : k = m1 := by omega
          have hcg := hrow.cell (k := k) (by rw [HO.out]; omega)
          have hfg := hrow.free k
          have hcW : c < W64 := by rw [W64_eq]; omega
          have hset := hrow.set (k := k) (x := c) (by rw [HO.out]; omega) hcW
          have hbel' := hbel.setCell (p := ⟨O, k, none⟩) (Nat.le_refl _) (.int .u64 (c : Int))
          have HL := Lib.hid (show (os.set k c).length = k + 1 by rw [List.length_set, HO.out])
          have HF := Lib.hid (show val (os.set k c) = X - Y by
            have hV := HV.out
            have e1 := val_take_set os k c (by rw [HO.out]; omega)
            rw [List.take_of_length_le (by rw [List.length_set, HO.out]; omega)] at e1
            rw [List.take_of_length_le (l := xs) (by rw [← HM1.out]; omega), List.take_of_length_le (l := ys) (by rw [← HM2.out]; exact HML.out), HXV.out, HYV.out] at hV
            have hlt := val_lt (hrow.small.take k)
            rw [List.length_take, Nat.min_eq_left (by rw [HO.out]; omega)] at hlt
            have hyx := HYX.out
            have hc0 : c = 0 := by
              rcases Nat.eq_zero_or_pos c with h0 | h0
              · exact h0
              · have := Nat.le_mul_of_pos_right (W64 ^ k) h0
                omega
            subst hc0
            omega)
          have hRR : Box2 (wr.setCell ⟨O, k, none⟩ (.int .u64 (c : Int))) r (.bool false) (.slice none 0 0) := by
            unfold Box2
            rw [Below.heap_setCell _ _ _ r (by show ¬ r = O; omega), HRR.out]
            exact HBR.out
          have HRW := Lib.hid hRR
          have hszc : (wr.setCell ⟨O, k, none⟩ (.int .u64 (c : Int))).heap.size = O + 2 := by simpa [hsz5] using hszw
          have hfresh : Fresh (wr.setCell ⟨O, k, none⟩ (.int .u64 (c : Int))) O (some ⟨O, 0, none⟩) (k + 1) := HFR.out.set _ _ _
          clear hRR
          go_wp2_with fail
          refine (limb_told' t1 (some ⟨O, 0, none⟩) (k + 1) (k + 1) O (os.set k c) (wr.setCell ⟨O, k, none⟩ (.int .u64 (c : Int))) (hset.lim (by omega)) hfresh HL.out.symm (Nat.le_refl _) (by omega)).mono ?_
          rintro e w7 ⟨v7, rfl, hv7, hb7⟩
          rw [HF.out, toldF_signed HSG.out] at hv7 ⊢
          obtain ⟨E, hE⟩ : ∃ E : Int, longE (x + y) = E := ⟨_, rfl⟩
          have HE := Lib.hid hE
          simp only [hE]
          clear hE
          obtain ⟨bv, Av, lv, cv, rfl, HV7⟩ := hv7.open
          clear hv7
          have br7 : Box2 w7 r (.bool false) (.slice none 0 0) := HRW.out.below hb7 HRW.out.lt
          have HBF := Lib.hid (show Below g w w7 from (HBW.out.trans (hbel'.mono (by omega))).trans (hb7.mono (by omega)))
          have HRL := Lib.hid (show r < O by omega)
          have d0 := br7.cell0
          have d1 := br7.cell1
          have fr := br7.free
          have HE7 := Lib.hid (HV7.out.ext (ext_store2 (a := .bool bv) (b := .slice Av lv cv) br7.nums) (fun i hi => by subst hi; exact HRL.out))
          clear hb7
          go_wp2_with fail
          refine bodyPost_ret (v := .tuple #[.agg #[.bool bv, (.slice Av lv cv)], (.int .i64 E)]) (by
            rw [results_cell_tmp rfl]
            have hld := run_loadVar_row (P := Tryz.prog) _ r 24 24 #[.bool bv, (.slice Av lv cv)] (0, 0) _ br7.store Tryz.underlying24 rfl (by kernel_rfl)
            simp [asAddr, Result.andThen, hld]) rfl ?_
          rw [HE.out]
          exact ⟨_, rfl, HE7.out.since (base' := w.heap.size) (by rw [HW.out]; omega), by rw [HW.out]; exact store2_below HBF.out (by omega)⟩
end Go.Proofs.YtjbagikfogejnaaGreatDoor
/- The package limb, on: Sub, Of. -/
namespace Go.Proofs.YtjbagikfogejnaaGreatDoor
open Go.RowKit Go.Deep
theorem lc_neg {z : Int} (h : lc z.natAbs ≤ 4096) : lc (-z).natAbs ≤ 4096 := by rwa [Int.natAbs_neg]
set_option maxRecDepth 100000 in
theorem limb_Sub (u v : Value) (x y : Int) (w : World) (hx : IntV w u x) (hy : IntV w v y) (lx : lc x.natAbs ≤ 4096) (ly : lc y.natAbs ≤ 4096) :
    Calls Tryz.prog 93 #[u, v] w fun e w' => ∃ v', e = .returned (.tuple #[v', .int .i64 (longE (x - y))]) ∧ RawAt w' w.heap.size v' (longR (x - y)) ∧ Below w.heap.size w w' := by
  obtain ⟨s1, A1, l1, c1, rfl, HU⟩ := hx.open
  obtain ⟨s2, A2, l2, c2, rfl, HV⟩ := hy.open
  have LX := Lib.hid lx
  have LY := Lib.hid ly
  clear hx hy lx ly
  go_enter Tryz.func93, Tryz.ntmps93
  go_wp2_with fail
  obtain ⟨W0, g, h, r, hW, hg, hh, hr, hgr, bx, by_, br, hbw, hsz⟩ := box_three w (.bool s1) (.slice A1 l1 c1) (.bool s2) (.slice A2 l2 c2) (.bool false) (.slice none 0 0)
  have HW := Lib.hid (show w.heap.size = g from hg)
  rw [hW, hr, hh, hg]
  have HBW := Lib.hid hbw
  have HBWS := Lib.hid (show Below w.heap.size w W0 from by rw [hg]; exact hbw)
  clear hW hr hg hh hbw
  refine (limb_Neg _ y W0 (HV.out.below HBWS.out) LY.out).mono ?_
  rintro e w1 ⟨v1, rfl, hv1, hb1⟩
  obtain ⟨b1, B1, m1, d1, rfl, HV1⟩ := hv1.open
  have hbA : Below w1.heap.size w1 (w1.alloc (.cells #[.bool b1, .slice B1 m1 d1] 24)) := (Below.refl _ _).alloc (Nat.le_refl _) _
  have hb1A : Below W0.heap.size W0 (w1.alloc (.cells #[.bool b1, .slice B1 m1 d1] 24)) := hb1.trans (hbA.mono hb1.size)
  have bc : Box2 (w1.alloc (.cells #[.bool b1, .slice B1 m1 d1] 24)) w1.heap.size (.bool b1) (.slice B1 m1 d1) := heap_alloc_new w1 _
  have bx := bx.below hb1A bx.lt
  have br := br.below hb1A br.lt
  have HU2 := Lib.hid (((HU.out.below HBWS.out).below hb1A))
  have HV2 := Lib.hid (HV1.out.int.below hbA)
  have hszr := br.lt
  have HBW2 := Lib.hid (HBW.out.trans (hb1A.mono (by omega)))
  have a0 := bx.cell0
  have a1 := bx.cell1
  have e0 := bc.cell0
  have e1 := bc.cell1
  clear hv1
  go_wp2_with fail
  refine (limb_Add _ _ x (-y) _ HU2.out HV2.out LX.out (lc_neg LY.out)).mono ?_
  rintro e w3 ⟨v3, rfl, hv3, hb3⟩
  rw [← Int.sub_eq_add_neg] at hv3 ⊢
  obtain ⟨E, hE⟩ : ∃ E : Int, longE (x - y) = E := ⟨_, rfl⟩
  have HE := Lib.hid hE
  rw [hE]
  clear hE
  obtain ⟨b3, B3, m3, d3, rfl, HV3⟩ := hv3.open
  have br3 := br.below hb3 br.lt
  have HB3 := Lib.hid (HBW2.out.trans (hb3.mono (by omega)))
  have HR := Lib.hid (HV3.out.ext (ext_store2 (a := .bool b3) (b := .slice B3 m3 d3) br3.nums) (fun i hi => by subst hi; exact hszr))
  have d0 := br3.cell0
  have d1' := br3.cell1
  have fr := br3.free
  have HSZ := Lib.hid (show g ≤ (w1.alloc (.cells #[.bool b1, .slice B1 m1 d1] 24)).heap.size by omega)
  clear hv3 hb3 hb1 hbA hb1A a0 a1 e0 e1 hszr
  go_wp2_with fail
  refine bodyPost_ret (v := .tuple #[.agg #[.bool b3, (.slice B3 m3 d3)], (.int .i64 E)]) (by
    rw [results_cell_tmp rfl]
    have hld := run_loadVar_row (P := Tryz.prog) _ r 24 24 #[.bool b3, (.slice B3 m3 d3)] (0, 0) _ br3.store Tryz.underlying24 rfl (by kernel_rfl)
    simp [asAddr, Result.andThen, hld]) rfl ?_
  rw [HE.out]
  exact ⟨_, rfl, HR.out.since (base' := w.heap.size) (by rw [HW.out]; exact HSZ.out), by rw [HW.out]; exact store2_below HB3.out (by omega)⟩
set_option maxRecDepth 100000 in
theorem limb_Of (n : Int) (w : World) (h1 : -9223372036854775808 ≤ n) (h2 : n < 9223372036854775808) :
    Calls Tryz.prog 38 #[.int .i64 n] w fun e w' => ∃ v', e = .returned v' ∧ RawAt w' w.heap.size v' (rawOf n) ∧ Below w.heap.size w w' := by
  by_cases hn : n < 0
  · obtain ⟨k, hk⟩ : ∃ k : Nat, n = -(k : Int) := ⟨n.natAbs, by omega⟩
    have HK := Lib.hid hk
    obtain ⟨r, e1, e2⟩ := wrap_minus (k := k) (by omega) (by omega)
    rw [← hk] at e1
    have HW := Lib.hid (show k < W64 by rw [W64_eq]; omega)
    have HN := Lib.hid hn
    clear hk h1 h2
    go_enter Tryz.func38, Tryz.ntmps38
    go_wp2_with fail
    have HSG := Lib.hid (show signed true k = n by rw [HK.out]; rfl)
    have hex : ∃ (W : World) (g h : Nat), (w.alloc (.cells #[.bool false, .slice none 0 0] 24)).alloc (.cells #[.int .u64 (k : Int)] 41) = W ∧ w.heap.size = g ∧ w.heap.size + 1 = h ∧ W.heap.size = g + 2 ∧ h = g + 1 ∧ Box2 W g (.bool false) (.slice none 0 0) ∧ Lim W (g + 2) (some ⟨h, 0, none⟩) [k] ∧ Fresh W (g + 1) (some ⟨h, 0, none⟩) 1 ∧ Below g w W := by
      refine ⟨_, _, _, rfl, rfl, rfl, by simp, rfl, ?_, ?_, ?_, ((Below.refl _ _).alloc (Nat.le_refl _) _).alloc (by simp) _⟩
      · unfold Box2
        rw [Below.heap_alloc _ _ _ (by simp)]; exact heap_alloc_new w _
      · have h1 := Lim.one (w := w.alloc (.cells #[.bool false, .slice none 0 0] 24)) HW.out
        simpa using h1
      · have h1 := heap_alloc_new (w.alloc (.cells #[.bool false, .slice none 0 0] 24)) (.cells #[.int .u64 (k : Int)] 41)
        exact .inr ⟨_, _, rfl, Nat.le_refl _, by simpa using h1, by simp⟩
    obtain ⟨W1, g, h, hW1, hg, hh, hsz, hhg, bx, hlim, hfr, hbw⟩ := hex
    rw [hW1, hh]
    have HG := Lib.hid hg
    have HHG := Lib.hid hhg
    rw [hg]
    clear hW1 hh hg hhg
    refine (limb_told' true (some ⟨h, 0, none⟩) 1 1 (g + 1) [k] W1 (by rw [hsz]; exact hlim) hfr rfl (Nat.le_refl _) (by omega)).mono ?_
    rintro e w2 ⟨v2, rfl, hv, hb2⟩
    have e3 : val [k] = k := by simp
    rw [e3, toldF_signed HSG.out] at hv ⊢
    have HLN := Lib.hid (show lc (n).natAbs ≤ 4096 by
      have h1 : (n).natAbs = k := by rw [← HSG.out, signed_natAbs]
      rw [h1]
      exact Nat.le_trans (lc_limb HW.out) (by omega))
    rw [longR_ok HLN.out, longE_ok HLN.out] at hv
    rw [longE_ok HLN.out, longR_ok HLN.out]
    obtain ⟨bv, Av, lv, cv, rfl, HV⟩ := hv.open
    have bx2 := bx.below hb2 bx.lt
    have HB := Lib.hid (show Below g w w2 from hbw.trans (hb2.mono (by omega)))
    have hbA : Below w2.heap.size w2 (w2.alloc (.cells #[.bool bv, .slice Av lv cv] 24)) := (Below.refl _ _).alloc (Nat.le_refl _) _
    have bxA := bx2.below hbA bx2.lt
    have HE := Lib.hid ((HV.out.below hbA).ext (ext_store2 (a := .bool bv) (b := .slice Av lv cv) bxA.nums) (fun i hi => by subst hi; omega))
    have HBA := Lib.hid (HB.out.trans (hbA.mono (by have := hb2.size; omega)))
    have d0 := bxA.cell0
    have d1 := bxA.cell1
    have fr := bxA.free
    clear hv hb2 hbw hlim hfr hbA
    go_wp2_with fail
    refine bodyPost_ret (results_cell_row rfl _ _ g 24 #[.bool bv, (.slice Av lv cv)] (0, 0) _ (by rfl) bxA.store Tryz.underlying24 rfl (by kernel_rfl)) rfl ?_
    exact ⟨_, rfl, HE.out.since (base' := w.heap.size) (by rw [HG.out]; omega), by rw [HG.out]; exact store2_below HBA.out (Nat.le_refl _)⟩
  · obtain ⟨k, hk⟩ : ∃ k : Nat, n = (k : Int) := ⟨n.natAbs, by omega⟩
    have e1 := wrap_plus (k := k) (by omega)
    subst hk
    have HW := Lib.hid (show k < W64 by rw [W64_eq]; omega)
    clear h1 h2
    go_enter Tryz.func38, Tryz.ntmps38
    go_wp2_with fail
    have HSG := Lib.hid (show signed false k = (k : Int) from rfl)
    have hex : ∃ (W : World) (g h : Nat), (w.alloc (.cells #[.bool false, .slice none 0 0] 24)).alloc (.cells #[.int .u64 (k : Int)] 41) = W ∧ w.heap.size = g ∧ w.heap.size + 1 = h ∧ W.heap.size = g + 2 ∧ h = g + 1 ∧ Box2 W g (.bool false) (.slice none 0 0) ∧ Lim W (g + 2) (some ⟨h, 0, none⟩) [k] ∧ Fresh W (g + 1) (some ⟨h, 0, none⟩) 1 ∧ Below g w W := by
      refine ⟨_, _, _, rfl, rfl, rfl, by simp, rfl, ?_, ?_, ?_, ((Below.refl _ _).alloc (Nat.le_refl _) _).alloc (by simp) _⟩
      · unfold Box2
        rw [Below.heap_alloc _ _ _ (by simp)]; exact heap_alloc_new w _
      · have h1 := Lim.one (w := w.alloc (.cells #[.bool false, .slice none 0 0] 24)) HW.out
        simpa using h1
      · have h1 := heap_alloc_new (w.alloc (.cells #[.bool false, .slice none 0 0] 24)) (.cells #[.int .u64 (k : Int)] 41)
        exact .inr ⟨_, _, rfl, Nat.le_refl _, by simpa using h1, by simp⟩
    obtain ⟨W1, g, h, hW1, hg, hh, hsz, hhg, bx, hlim, hfr, hbw⟩ := hex
    rw [hW1, hh]
    have HG := Lib.hid hg
    have HHG := Lib.hid hhg
    rw [hg]
    clear hW1 hh hg hhg
    refine (limb_told' false (some ⟨h, 0, none⟩) 1 1 (g + 1) [k] W1 (by rw [hsz]; exact hlim) hfr rfl (Nat.le_refl _) (by omega)).mono ?_
    rintro e w2 ⟨v2, rfl, hv, hb2⟩
    have e3 : val [k] = k := by simp
    rw [e3, toldF_signed HSG.out] at hv ⊢
    have HLN := Lib.hid (show lc ((k : Int)).natAbs ≤ 4096 by
      have h1 : ((k : Int)).natAbs = k := by rw [← HSG.out, signed_natAbs]
      rw [h1]
      exact Nat.le_trans (lc_limb HW.out) (by omega))
    rw [longR_ok HLN.out, longE_ok HLN.out] at hv
    rw [longE_ok HLN.out, longR_ok HLN.out]
    obtain ⟨bv, Av, lv, cv, rfl, HV⟩ := hv.open
    have bx2 := bx.below hb2 bx.lt
    have HB := Lib.hid (show Below g w w2 from hbw.trans (hb2.mono (by omega)))
    have hbA : Below w2.heap.size w2 (w2.alloc (.cells #[.bool bv, .slice Av lv cv] 24)) := (Below.refl _ _).alloc (Nat.le_refl _) _
    have bxA := bx2.below hbA bx2.lt
    have HE := Lib.hid ((HV.out.below hbA).ext (ext_store2 (a := .bool bv) (b := .slice Av lv cv) bxA.nums) (fun i hi => by subst hi; omega))
    have HBA := Lib.hid (HB.out.trans (hbA.mono (by have := hb2.size; omega)))
    have d0 := bxA.cell0
    have d1 := bxA.cell1
    have fr := bxA.free
    clear hv hb2 hbw hlim hfr hbA
    go_wp2_with fail
    refine bodyPost_ret (results_cell_row rfl _ _ g 24 #[.bool bv, (.slice Av lv cv)] (0, 0) _ (by rfl) bxA.store Tryz.underlying24 rfl (by kernel_rfl)) rfl ?_
    exact ⟨_, rfl, HE.out.since (base' := w.heap.size) (by rw [HG.out]; omega), by rw [HG.out]; exact store2_below HBA.out (Nat.le_refl _)⟩
end Go.Proofs.YtjbagikfogejnaaGreatDoor
/- The package divide: divide, wrong, Trunc, Floor, Exact, Mod. -/
namespace Go.Proofs.YtjbagikfogejnaaGreatDoor
open Go.RowKit Go.Deep
theorem Own.part {w : World} {base : Nat} {A : Option Addr} {l c : Nat} {xs : List Nat} (h : Own w base (.slice A l c) xs) (hl : xs.length ≤ 1099511627776) : Part w base (.slice A l c) (val xs) := by
  obtain ⟨A', c', hv, hc, hlim, _⟩ := h.form
  injection hv with e1 e2 e3
  subst e1 e2 e3
  exact ⟨_, _, xs, rfl, hc, hl, hlim, h.fresh, rfl⟩
theorem lc_lt_of {m n : Nat} (h : (limbs m).length < (limbs n).length) : m < n := by
  rcases Nat.lt_or_ge m n with h1 | h1
  · exact h1
  · have := limbs_mono h1
    omega
set_option maxRecDepth 100000 in
theorem divide_divide (A1 A2 : Option Addr) (c1 c2 m n l1 l2 : Nat) (w : World) (h1 : Lim w w.heap.size A1 (limbs m)) (h2 : Lim w w.heap.size A2 (limbs n)) (e1 : l1 = (limbs m).length) (e2 : l2 = (limbs n).length) (hl1 : l1 ≤ 4096) (hl2 : l2 ≤ 4096) (hc1 : l1 ≤ c1) (hn : n ≠ 0) (hg : l2 ≤ 1200 ∨ l1 ≤ l2 + 800) :
    Calls Tryz.prog 152 #[.slice A1 l1 c1, .slice A2 l2 c2] w fun e w' => ∃ u v, e = .returned (.tuple #[u, v]) ∧ Part w' w.heap.size u (m / n) ∧ Part w' w.heap.size v (m % n) ∧ Sep u v ∧ Below w.heap.size w w' := by
  have hl1I : (l1 : Int) ≤ 4096 := by omega
  have hl2I : (l2 : Int) ≤ 4096 := by omega
  have H1 := Lib.hid h1
  have H2 := Lib.hid h2
  have E1 := Lib.hid e1
  have E2 := Lib.hid e2
  have HC1 := Lib.hid hc1
  have HN := Lib.hid hn
  have HL1 := Lib.hid hl1
  have HL2 := Lib.hid hl2
  have l20 : 0 < l2 := by
    rcases Nat.eq_zero_or_pos l2 with h | h
    · exact absurd (limbs_eq_nil.1 (List.eq_nil_of_length_eq_zero (by omega))) hn
    · exact h
  by_cases hlt : l1 < l2
  · have hltI : (l1 : Int) < (l2 : Int) := by omega
    have HLT := Lib.hid hlt
    clear h1 h2 e1 e2 hc1 hn hl1 hl2 hlt hg l20
    go_enter Tryz.func152, Tryz.ntmps152
    have HO : Own (w.alloc (.cells #[] 41)) w.heap.size (.slice (some ⟨w.heap.size, 0, none⟩) 0 0) [] := by
      have h := Own.made w w.heap.size 0 0 (Nat.le_refl _) (Nat.le_refl _) (by omega)
      rwa [show madeCells #[.int .u64 0] 0 = #[] by simp [madeCells]] at h
    have HB : Below w.heap.size w (w.alloc (.cells #[] 41)) := (Below.refl _ _).alloc (Nat.le_refl _) _
    go_wp2_with (at_builtin; refine append_lim (w0 := w) w.heap.size rfl _ _ rfl _ [] A1 l1 c1 (limbs m) (by rfl) (by rfl) E1.out (H1.out.below HB) HO HB HB.size (by have := HL1.out; have := E1.out; simp; omega) fun v1 w1 hown hbel hgrow _ => ?_)
    obtain ⟨A, k, c, rfl⟩ := hown.slice
    go_wp2_with fail
    go_ret2
    have hmn := lc_lt_of (m := m) (n := n) (by rw [← E1.out, ← E2.out]; exact HLT.out)
    refine ⟨_, _, rfl, ?_, ?_, Sep.nil _, hbel⟩
    · rw [Nat.div_eq_of_lt hmn]; exact Part.nil _ _
    · rw [Nat.mod_eq_of_lt hmn]
      have h := Own.part (by simpa using hown) (xs := limbs m) (by have := HL1.out; have := E1.out; omega)
      rwa [val_limbs] at h
  · have hltI : ¬ (l1 : Int) < (l2 : Int) := by omega
    by_cases h21 : l2 = 1
    · subst h21
      obtain ⟨ad, rfl, hb, hcell⟩ := h2.at_ (k := 0) (by omega)
      obtain ⟨d, hd⟩ : ∃ d, (limbs n).getD 0 0 = d := ⟨_, rfl⟩
      have hdn : d = n := by
        have h3 := val_limbs n
        rcases hx : limbs n with _ | ⟨x, xs⟩
        · rw [hx] at e2; simp at e2
        · rw [hx] at e2 h3 hd
          have : xs = [] := by simpa using e2.symm
          subst this
          simp [val] at h3 hd
          omega
      have hdW : d < W64 := hd ▸ h2.small.getD 0
      rw [hd] at hcell
      rw [hdn] at hcell hdW
      rw [show ad.add 0 = ad from rfl] at hcell
      replace hltI : ¬ (l1 : Int) < 1 := by omega
      have HDW := Lib.hid hdW
      clear h1 h2 e1 e2 hc1 hn hl1 hl2 hlt hg l20 hd hdn hdW
      go_enter Tryz.func152, Tryz.ntmps152
      go_wp2_with fail
      have C := divide_short A1 c1 (limbs m) n w (Nat.le_refl _) H1.out (by have := HL1.out; have := E1.out; omega) HDW.out (by have := HN.out; omega)
      rw [← E1.out, val_limbs] at C
      refine C.mono ?_
      rintro e w1 ⟨u, v, rfl, hu, hv, hs, hb1⟩
      have HU := Lib.hid hu
      have HV := Lib.hid hv
      have HS := Lib.hid hs
      clear C hu hv hs
      go_wp2_with fail
      go_ret2
      exact ⟨_, _, rfl, HU.out, HV.out, HS.out, hb1⟩
    · have h21I : ((l2 : Int) == 1) = false := beq_eq_false_iff_ne.2 (by omega)
      have C := divide_long A1 A2 c1 c2 (l1 - l2) (l2 - 2) (limbs m) (limbs n) w h1 h2 (by omega) (by omega) (by omega) (by
        have h3 := norm_limbs n
        rcases h3 with h3 | h3
        · rw [h3] at e2; simp at e2; omega
        · rw [show l2 - 2 + 1 = (limbs n).length - 1 by omega]; exact h3)
      rw [← e1, ← e2, val_limbs, val_limbs] at C
      have HCC := Lib.hid C
      have hq : ((l2 : Int) ≤ 1200) ∨ (1200 < (l2 : Int) ∧ (l1 : Int) - (l2 : Int) ≤ 800) := by omega
      clear h1 h2 e1 e2 hc1 hn hl1 hl2 hlt hg l20 h21 C
      rcases hq with hq | ⟨hq1, hq2⟩
      · go_enter Tryz.func152, Tryz.ntmps152
        go_wp2_with fail
        refine HCC.out.mono ?_
        rintro e w1 ⟨u, v, rfl, hu, hv, hs, hb1⟩
        have HU := Lib.hid hu
        have HV := Lib.hid hv
        have HS := Lib.hid hs
        clear hu hv hs
        go_wp2_with fail
        go_ret2
        exact ⟨_, _, rfl, HU.out, HV.out, HS.out, hb1⟩
      · go_enter Tryz.func152, Tryz.ntmps152
        go_wp2_with fail
        refine HCC.out.mono ?_
        rintro e w1 ⟨u, v, rfl, hu, hv, hs, hb1⟩
        have HU := Lib.hid hu
        have HV := Lib.hid hv
        have HS := Lib.hid hs
        clear hu hv hs
        go_wp2_with fail
        go_ret2
        exact ⟨_, _, rfl, HU.out, HV.out, HS.out, hb1⟩
end Go.Proofs.YtjbagikfogejnaaGreatDoor
/- The package divide: wrong, Trunc, Floor, Exact, Mod. -/
namespace Go.Proofs.YtjbagikfogejnaaGreatDoor
open Go.RowKit Go.Deep
theorem boxH4 (w : World) (x y x' y' x2 y2 x3 y3 : Value) : ∃ W g h r q, (((w.alloc (.cells #[x, y] 24)).alloc (.cells #[x', y'] 24)).alloc (.cells #[x2, y2] 24)).alloc (.cells #[x3, y3] 24) = W ∧ w.heap.size = g ∧ w.heap.size + 1 = h ∧ w.heap.size + 1 + 1 = r ∧ w.heap.size + 1 + 1 + 1 = q ∧
    Hid (Box2 W g x y) ∧ Hid (Box2 W h x' y') ∧ Hid (Box2 W r x2 y2) ∧ Hid (Box2 W q x3 y3) ∧ Hid (w.heap.size = g ∧ g + 1 = h ∧ g + 2 = r ∧ g + 3 = q) ∧ Hid (W.heap.size = g + 4) ∧ Below w.heap.size w W := by
  obtain ⟨W1, g, h, r, hW, hg, hh, hr, ⟨h1, h2⟩, b1, b2, b3, hb, hs⟩ := box_three w x y x' y' x2 y2
  rw [hW]
  obtain ⟨W2, q, hW2, hq, b4, hb2, hs2⟩ := box_new W1 x3 y3
  have hb3 : Below W1.heap.size W1 W2 := by rw [hq]; exact hb2
  have b1' := b1.below hb3 b1.lt
  have b2' := b2.below hb3 b2.lt
  have b3' := b3.below hb3 b3.lt
  exact ⟨W2, g, h, r, q, hW2, hg, hh, hr, by omega, Lib.hid b1', Lib.hid b2', Lib.hid b3', Lib.hid b4, Lib.hid (by omega), Lib.hid (by omega), by rw [hg]; exact hb.trans (hb2.mono (by omega))⟩
theorem Part.put {w w' : World} {g base : Nat} {v : Value} {n : Nat} (h : Part w base v n) (p : Put g w w') : Part w' base v n := by
  obtain ⟨A, c, xs, h1, h2, h3, h4, h5, h6⟩ := h
  exact ⟨A, c, xs, h1, h2, h3, h4.put p, h5.put p, h6⟩
theorem raw_right (v : Value) (x : Raw) (w : World) (h : RawV w v x) : Calls Tryz.prog 50 #[v] w fun e w' => e = .returned (.bool (rightInt x)) ∧ Below w.heap.size w w' := by
  obtain ⟨A, l, c, rfl, hl, hc, hlim⟩ := h
  exact limb_right x.1 A l c x.2 w (Nat.le_refl _) hlim hl
/-- Why two records are not divided. -/
def wrongE (x y : Raw) : Int := if rightInt x && rightInt y then (if y.2.length = 0 then 7 else 0) else 2
set_option maxRecDepth 100000 in
theorem divide_wrong (u v : Value) (x y : Raw) (w : World) (hu : RawV w u x) (hv : RawV w v y) :
    Calls Tryz.prog 151 #[u, v] w fun e w' => e = .returned (.int .i64 (wrongE x y)) ∧ Below w.heap.size w w' := by
  obtain ⟨b1, A1, l1, c1, rfl, HU⟩ := hu.open
  obtain ⟨b2, A2, l2, c2, rfl, HV⟩ := hv.open
  have HL2 := Lib.hid HV.out.parts.2.1
  clear hu hv
  go_enter Tryz.func151, Tryz.ntmps151
  go_wp2_with fail
  obtain ⟨W0, g, h, hW, hg, hr, bx, by_, G_g, S_W0, hb⟩ := boxH2 w (.bool b1) (.slice A1 l1 c1) (.bool b2) (.slice A2 l2 c2)
  rw [hW, hr, hg]
  replace HU := Lib.hid (HU.out.stay hb)
  replace HV := Lib.hid (HV.out.stay hb)
  have B_W0 := Lib.hid (show Since w W0 from hb)
  clear hW hg hr hb
  have a0 := bx.out.cell0
  have a1 := bx.out.cell1
  go_wp2_with fail
  refine (raw_right _ x W0 HU.out).mono ?_
  rintro e w1 ⟨rfl, hb⟩
  replace HU := Lib.hid (HU.out.stay hb)
  replace HV := Lib.hid (HV.out.stay hb)
  replace bx := Lib.hid (bx.out.stay hb)
  replace by_ := Lib.hid (by_.out.stay hb)
  replace B_W0 := Lib.hid (B_W0.out.stay hb)
  clear hb a0 a1
  rcases hr : rightInt x
  · have HE := Lib.hid (show wrongE x y = 2 by unfold wrongE; rw [hr]; rfl)
    clear hr
    go_wp2_with fail
    go_ret
    rw [HE.out]
    exact ⟨rfl, B_W0.out⟩
  · have HR := Lib.hid hr
    clear hr
    have a0 := by_.out.cell0
    have a1 := by_.out.cell1
    go_wp2_with fail
    refine (raw_right _ y _ HV.out).mono ?_
    rintro e w2 ⟨rfl, hb⟩
    replace bx := Lib.hid (bx.out.stay hb)
    replace by_ := Lib.hid (by_.out.stay hb)
    replace B_W0 := Lib.hid (B_W0.out.stay hb)
    clear hb a0 a1
    rcases hr : rightInt y
    · have HE := Lib.hid (show wrongE x y = 2 by unfold wrongE; rw [hr, HR.out]; rfl)
      clear hr
      go_wp2_with fail
      go_ret
      rw [HE.out]
      exact ⟨rfl, B_W0.out⟩
    · have a0 := by_.out.cell0
      have a1 := by_.out.cell1
      by_cases h0 : l2 = 0
      · subst h0
        have HE := Lib.hid (show wrongE x y = 7 by unfold wrongE; rw [hr, HR.out, ← HL2.out]; rfl)
        clear hr
        go_wp2_with fail
        go_ret
        rw [HE.out]
        exact ⟨rfl, B_W0.out⟩
      · have HE := Lib.hid (show wrongE x y = 0 by unfold wrongE; rw [hr, HR.out, ← HL2.out, if_neg h0]; rfl)
        have h0I : ((l2 : Int) == 0) = false := beq_eq_false_iff_ne.2 (by omega)
        clear hr h0
        go_wp2_with fail
        go_ret
        rw [HE.out]
        exact ⟨rfl, B_W0.out⟩
set_option maxRecDepth 100000 in
theorem divide_Trunc_bad (u v : Value) (x y : Raw) (E : Int) (w : World) (hu : RawV w u x) (hv : RawV w v y) (hE : wrongE x y = E) (h0 : E ≠ 0) :
    Calls Tryz.prog 116 #[u, v] w fun e w' => e = .returned (.tuple #[none2, none2, .int .i64 E]) ∧ Below w.heap.size w w' := by
  obtain ⟨b1, A1, l1, c1, rfl, HU⟩ := hu.open
  obtain ⟨b2, A2, l2, c2, rfl, HV⟩ := hv.open
  have HE := Lib.hid hE
  have h0I : ((E : Int) != 0) = true := by rw [bne_iff_ne]; exact h0
  clear hu hv hE h0
  go_enter Tryz.func116, Tryz.ntmps116
  go_wp2_with fail
  obtain ⟨W0, g, h, r, q, hW, hg, hh, hr, hq, bx, by_, br, bq, G_g, S_W0, hb⟩ := boxH4 w (.bool b1) (.slice A1 l1 c1) (.bool b2) (.slice A2 l2 c2) (.bool false) (.slice none 0 0) (.bool false) (.slice none 0 0)
  rw [hW, hq, hr, hh, hg]
  replace HU := Lib.hid (HU.out.stay hb)
  replace HV := Lib.hid (HV.out.stay hb)
  have B_W0 := Lib.hid (show Since w W0 from hb)
  clear hW hg hh hr hq hb
  have a0 := bx.out.cell0
  have a1 := bx.out.cell1
  have b0 := by_.out.cell0
  have b1 := by_.out.cell1
  go_wp2_with fail
  refine (divide_wrong _ _ x y W0 HU.out HV.out).mono ?_
  rintro e w1 ⟨rfl, hb⟩
  rw [HE.out]
  replace bx := Lib.hid (bx.out.stay hb)
  replace by_ := Lib.hid (by_.out.stay hb)
  replace br := Lib.hid (br.out.stay hb)
  replace bq := Lib.hid (bq.out.stay hb)
  replace B_W0 := Lib.hid (B_W0.out.stay hb)
  clear hb a0 a1 b0 b1
  have hne : ¬ r = q := by have := G_g.out; omega
  have HGG := Lib.hid (show w.heap.size ≤ r ∧ w.heap.size ≤ q by have := G_g.out; omega)
  have c0 := br.out.cell0
  have c1' := br.out.cell1
  have f0 := br.out.free 0
  have f1 := br.out.free 1
  have d0 := bq.out.cell0
  have d1 := bq.out.cell1
  have g0 := bq.out.free 0
  have g1 := bq.out.free 1
  have bh := Box2.far (h := q) (a := .bool false) (b := .slice none 0 0) (br.out.store (a := .bool false) (b := .slice none 0 0)) (fun e => hne e.symm)
  have bk := (Box2.far (h := r) (a := .bool false) (b := .slice none 0 0) bq.out hne).store (a := .bool false) (b := .slice none 0 0)
  go_wp2_with fail
  refine bodyPost_ret (v := .tuple #[.agg #[.bool false, (.slice none 0 0)], .agg #[.bool false, (.slice none 0 0)], (.int .i64 E)]) (by
    rw [results_rec2 rfl]
    have hld := run_loadVar_row (P := Tryz.prog) _ r 24 24 #[.bool false, (.slice none 0 0)] (0, 0) _ bh Tryz.underlying24 rfl (by kernel_rfl)
    have hld2 := run_loadVar_row (P := Tryz.prog) _ q 24 24 #[.bool false, (.slice none 0 0)] (0, 0) _ bk Tryz.underlying24 rfl (by kernel_rfl)
    simp [asAddr, Result.andThen, hld, hld2]) rfl ?_
  exact ⟨rfl, store2_below (store2_below B_W0.out HGG.out.1) HGG.out.2⟩
theorem wrongE_int {x y : Int} (lx : lc x.natAbs ≤ 4096) (ly : lc y.natAbs ≤ 4096) (h0 : y ≠ 0) : wrongE (rawOf x) (rawOf y) = 0 := by
  unfold wrongE
  have h1 := right_of lx
  have h2 := right_of ly
  have h3 : (limbs y.natAbs).length ≠ 0 := fun h => by have := limbs_eq_nil.1 (List.eq_nil_of_length_eq_zero h); omega
  unfold rawOf
  rw [h1, h2, if_neg h3]; rfl
set_option maxHeartbeats 1000000 in
set_option maxRecDepth 100000 in
theorem divide_Trunc (u v : Value) (x y : Int) (w : World) (hu : IntV w u x) (hv : IntV w v y) (lx : lc x.natAbs ≤ 4096) (ly : lc y.natAbs ≤ 4096) (h0 : y ≠ 0) (hg : lc y.natAbs ≤ 1200 ∨ lc x.natAbs ≤ lc y.natAbs + 800) :
    Calls Tryz.prog 116 #[u, v] w fun e w' => ∃ p q, e = .returned (.tuple #[p, q, .int .i64 0]) ∧ RawAt w' w.heap.size p (rawOf (x.tdiv y)) ∧ RawAt w' w.heap.size q (rawOf (x.tmod y)) ∧ Sep p q ∧ Below w.heap.size w w' := by
  obtain ⟨b1, A1, l1, c1, rfl, HU⟩ := hu.open
  obtain ⟨b2, A2, l2, c2, rfl, HV⟩ := hv.open
  have HP1 := Lib.hid HU.out.parts
  have HP2 := Lib.hid HV.out.parts
  have HWR := Lib.hid (wrongE_int lx ly h0)
  have HLX := Lib.hid lx
  have HLY := Lib.hid ly
  have HG := Lib.hid hg
  have H0 := Lib.hid h0
  clear hu hv lx ly h0 hg
  go_enter Tryz.func116, Tryz.ntmps116
  go_wp2_with fail
  obtain ⟨W0, g, h, r, q, hW, hg, hh, hr, hq, bx, by_, br, bq, G_g, S_W0, hb⟩ := boxH4 w (.bool b1) (.slice A1 l1 c1) (.bool b2) (.slice A2 l2 c2) (.bool false) (.slice none 0 0) (.bool false) (.slice none 0 0)
  rw [hW, hq, hr, hh, hg]
  replace HU := Lib.hid (HU.out.stay hb)
  replace HV := Lib.hid (HV.out.stay hb)
  have B_W0 := Lib.hid (show Since w W0 from hb)
  clear hW hg hh hr hq hb
  have a0 := bx.out.cell0
  have a1 := bx.out.cell1
  have b0 := by_.out.cell0
  have b1 := by_.out.cell1
  go_wp2_with fail
  refine (divide_wrong _ _ _ _ W0 HU.out.raw HV.out.raw).mono ?_
  rintro e w1 ⟨rfl, hb⟩
  rw [HWR.out]
  replace HU := Lib.hid (HU.out.stay hb)
  replace HV := Lib.hid (HV.out.stay hb)
  replace bx := Lib.hid (bx.out.stay hb)
  replace by_ := Lib.hid (by_.out.stay hb)
  replace br := Lib.hid (br.out.stay hb)
  replace bq := Lib.hid (bq.out.stay hb)
  replace B_W0 := Lib.hid (B_W0.out.stay hb)
  clear hb a0 a1 b0 b1
  have a0 := bx.out.cell0
  have a1 := bx.out.cell1
  have b0 := by_.out.cell0
  have b1 := by_.out.cell1
  go_wp2_with fail
  have C := divide_divide A1 A2 c1 c2 x.natAbs y.natAbs l1 l2 w1 HU.out.parts.2.2.2 HV.out.parts.2.2.2 HP1.out.2.1 HP2.out.2.1 (by have h1 := HP1.out.2.1; have h2 := HLX.out; unfold lc at h2; omega) (by have h1 := HP2.out.2.1; have h2 := HLY.out; unfold lc at h2; omega) HP1.out.2.2.1 (by have := H0.out; omega) (by have h1 := HG.out; unfold lc at h1; have h2 := HP1.out.2.1; have h3 := HP2.out.2.1; omega)
  refine C.mono ?_
  rintro e w2 ⟨p, q', rfl, hp, hq, hs, hb⟩
  clear C a0 a1 b0 b1
  replace bx := Lib.hid (bx.out.stay hb)
  replace by_ := Lib.hid (by_.out.stay hb)
  replace br := Lib.hid (br.out.stay hb)
  replace bq := Lib.hid (bq.out.stay hb)
  have HPP := Lib.hid (hp.since B_W0.out.size)
  have HPQ := Lib.hid (hq.since B_W0.out.size)
  have HSP := Lib.hid hs
  replace B_W0 := Lib.hid (B_W0.out.stay hb)
  clear hp hq hs hb HU HV
  go_upto_region 5 with (fail)
  have a0 := later_cell bx.out.cell0
  have a1 := later_cell bx.out.cell1
  have b0 := later_cell by_.out.cell0
  have b1 := later_cell by_.out.cell1
  refine wp_region_stages (fun w' => ∃ δ : Later Nix w2, w' = δ.world) [(false, 0), (false, 1), (false, 2), (false, 3), (false, 4), (false, 5), (false, 7), (false, 8), (false, 9), (true, 6)] 10 [.reads [_, _, _, _, _, _, _, _, _], .loud _] [_, _, _, _] (by kernel_rfl) (by kernel_rfl) rfl rfl ?_ ?_
  · exact ⟨⟨_, nix_drawn w2⟩, rfl⟩
  refine wpStages_reads ?_
  repeat (go_big_quiet_step (fail))
  refine wpQuiet_nil ?_
  refine wpStages_loud rfl ?_
  intro K hK
  go_big_op
  clear a0 a1 b0 b1
  have ex : Ext Nix w2 (w2.drewN 1) := nix_drawn w2
  have hb : Below w2.heap.size w2 (w2.drewN 1) := below_drewN (Below.refl _ _) 1
  replace HPP := Lib.hid (HPP.out.stay hb)
  replace HPQ := Lib.hid (HPQ.out.stay hb)
  replace bx := Lib.hid (bx.out.stay hb)
  replace by_ := Lib.hid (by_.out.stay hb)
  replace br := Lib.hid (br.out.stay hb)
  replace bq := Lib.hid (bq.out.stay hb)
  replace B_W0 := Lib.hid (B_W0.out.stay hb)
  clear hb
  refine ((divide_made (!(b1 == b2)) p _ _ _ HPP.out)).mono ?_
  rintro e w3 ⟨up, rfl, hup, hk1, hb⟩
  replace ex : Ext Nix w2 w3 := ex.later (Ext.of_below hb)
  replace HPQ := Lib.hid (HPQ.out.stay hb)
  replace bx := Lib.hid (bx.out.stay hb)
  replace by_ := Lib.hid (by_.out.stay hb)
  replace br := Lib.hid (br.out.stay hb)
  replace bq := Lib.hid (bq.out.stay hb)
  replace B_W0 := Lib.hid (B_W0.out.stay hb)
  clear hb
  refine hK _ _ ⟨⟨_, ex⟩, rfl⟩ ?_
  clear hK K
  obtain ⟨bu, Au, lu, cu, rfl, HU⟩ := hup.open
  have HK1 := Lib.hid hk1
  clear hup hk1 HPP
  refine wpStages_nil ?_
  go_wp2_with fail
  refine (divide_made b1 q' _ _ _ HPQ.out).mono ?_
  rintro e w4 ⟨uq, rfl, huq, hk2, hb⟩
  replace HU := Lib.hid (HU.out.stay hb)
  replace bx := Lib.hid (bx.out.stay hb)
  replace by_ := Lib.hid (by_.out.stay hb)
  replace br := Lib.hid (br.out.stay hb)
  replace bq := Lib.hid (bq.out.stay hb)
  replace B_W0 := Lib.hid (B_W0.out.stay hb)
  obtain ⟨bv, Av, lv, cv, rfl, HV⟩ := huq.open
  have HK2 := Lib.hid hk2
  clear huq hk2 hb HPQ
  have hne : ¬ r = q := by have := G_g.out; omega
  have HGG := Lib.hid (show w.heap.size ≤ r ∧ w.heap.size ≤ q by have := G_g.out; omega)
  have c0 := br.out.cell0
  have c1' := br.out.cell1
  have f0 := br.out.free 0
  have f1 := br.out.free 1
  have d0 := bq.out.cell0
  have d1 := bq.out.cell1
  have g0 := bq.out.free 0
  have g1 := bq.out.free 1
  have n0 := br.out.nums
  have n1 := bq.out.nums
  have bh := Box2.far (h := q) (a := .bool bv) (b := .slice Av lv cv) (br.out.store (a := .bool bu) (b := .slice Au lu cu)) (fun e => hne e.symm)
  have bk := Box2.far (h := r) (a := .bool bu) (b := .slice Au lu cu) bq.out hne
  have HBK := Lib.hid (And.intro bh bk)
  have HN := Lib.hid (And.intro n0 n1)
  clear bh bk n0 n1
  go_wp2_with fail
  refine bodyPost_ret (v := .tuple #[.agg #[.bool bu, (.slice Au lu cu)], .agg #[.bool bv, (.slice Av lv cv)], (.int .i64 0)]) (by
    rw [results_rec2 rfl]
    have hld := run_loadVar_row (P := Tryz.prog) _ r 24 24 #[.bool bu, (.slice Au lu cu)] (0, 0) _ HBK.out.1 Tryz.underlying24 rfl (by kernel_rfl)
    have hld2 := run_loadVar_row (P := Tryz.prog) _ q 24 24 #[.bool bv, (.slice Av lv cv)] (0, 0) _ HBK.out.2.store Tryz.underlying24 rfl (by kernel_rfl)
    simp [asAddr, Result.andThen, hld, hld2]) rfl ?_
  have e1 : signed (!(b1 == b2)) (x.natAbs / y.natAbs) = x.tdiv y := by rw [HP1.out.1, HP2.out.1]; exact signed_quo x y
  have e2 : signed b1 (x.natAbs % y.natAbs) = x.tmod y := by rw [HP1.out.1]; exact signed_rem x y
  rw [e1] at HU
  rw [e2] at HV
  exact ⟨_, _, rfl, (HU.out.store2 HN.out.1 _ _).store2 HBK.out.2.nums _ _, (HV.out.store2 HN.out.1 _ _).store2 HBK.out.2.nums _ _, HSP.out.sub HK1.out HK2.out, store2_below (store2_below B_W0.out HGG.out.1) HGG.out.2⟩
theorem fmod_size (x : Int) {y : Int} (h0 : y ≠ 0) : (x.fmod y).natAbs < y.natAbs := by
  rcases Int.lt_trichotomy y 0 with h | h | h
  · have h1 := Int.fmod_lt_of_pos (-x) (b := -y) (by omega)
    have h2 := Int.fmod_nonneg_of_pos (-x) (b := -y) (by omega)
    rw [Int.neg_fmod_neg] at h1 h2
    omega
  · exact absurd h h0
  · have h1 := Int.fmod_lt_of_pos x h
    have h2 := Int.fmod_nonneg_of_pos x h
    omega
/-- Two blocks. -/
def Duo (r q : Nat) : Nat → Prop := fun i => i = r ∨ i = q
theorem later_duo {w : World} {p : Addr} {v : Value} {r q : Nat} (h : w.cell? p = some v) (h1 : p.block ≠ r) (h2 : p.block ≠ q) (δ : Later (Duo r q) w) : δ.world.cell? p = some v := by
  rw [cell_of_block (w := w) (δ.ext.block _ (World.block_lt_of_cell? w p h) (fun h => h.elim h1 h2))]; exact h
theorem duo_drawn {r q : Nat} (w : World) (hr : NoNum w r) (hq : NoNum w q) : Ext (Duo r q) w (w.drewN 1) := ⟨rfl, rfl, rfl, Nat.le_refl _, fun _ _ _ => rfl, fun i hi _ => by rcases hi with rfl | rfl; exact hr; exact hq⟩
theorem Ext.back {G : Nat → Prop} {w w' : World} (h : Ext G w w') : Ext G w w := ⟨rfl, rfl, rfl, Nat.le_refl _, fun _ _ _ => rfl, h.num⟩
theorem Ext.duo1 {r q : Nat} {w w1 w2 : World} (e : Ext (Duo r q) w w1) (hr : NoNum w r) (hq : NoNum w q) (k : Ext (· = r) w1 w2) : Ext (Duo r q) w w2 :=
  (e.trans k).mono (fun i _ hi => hi.elim (fun h => h) (fun h => .inl h)) (fun i hi _ => by rcases hi with rfl | rfl; exact hr; exact hq)
theorem Ext.duo2 {r q : Nat} {w w1 w2 : World} (e : Ext (Duo r q) w w1) (hr : NoNum w r) (hq : NoNum w q) (k : Ext (· = q) w1 w2) : Ext (Duo r q) w w2 :=
  (e.trans k).mono (fun i _ hi => hi.elim (fun h => h) (fun h => .inr h)) (fun i hi _ => by rcases hi with rfl | rfl; exact hr; exact hq)
theorem Sep.of_raw {w w' : World} {b1 : Nat} {u v : Value} {x y : Raw} (hu : RawAt w b1 u x) (hv : RawAt w' w.heap.size v y) : Sep u v := by
  obtain ⟨A, l, c, rfl, _, _, _, hf⟩ := hu
  obtain ⟨B, m, d, rfl, _, _, _, hg⟩ := hv
  intro a b h1 h2
  rcases hf with ⟨rfl, _⟩ | ⟨g, cs, rfl, _, h3, _⟩
  · cases h1
  · rcases hg with ⟨rfl, _⟩ | ⟨g', cs', rfl, h4, _, _⟩
    · cases h2
    · injection h1 with h1
      injection h2 with h2
      have := (Array.getElem?_eq_some_iff.1 h3).1
      simp only at h1 h2
      omega
theorem floor_case (x y : Int) (h0 : y ≠ 0) : (x.tmod y ≠ 0 ∧ decide (x < 0) ≠ decide (y < 0) ∧ x.fdiv y = x.tdiv y - 1 ∧ x.fmod y = x.tmod y + y) ∨ ((x.tmod y = 0 ∨ decide (x < 0) = decide (y < 0)) ∧ x.fdiv y = x.tdiv y ∧ x.fmod y = x.tmod y) := by
  have h := Int.fdiv_eq_tdiv (a := x) (b := y)
  have h1 := Int.mul_tdiv_add_tmod x y
  have h2 := Int.mul_fdiv_add_fmod x y
  have h3 : y ∣ x ↔ x.tmod y = 0 := Int.dvd_iff_tmod_eq_zero
  by_cases hm : x.tmod y = 0
  · rw [if_pos (h3.2 hm), Int.sub_zero] at h
    exact .inr ⟨.inl hm, h, by rw [h] at h2; omega⟩
  · rw [if_neg (fun hd => hm (h3.1 hd))] at h
    by_cases hs : decide (x < 0) = decide (y < 0)
    · have e : x.fdiv y = x.tdiv y := by
        rw [h]
        by_cases hx : 0 ≤ x
        · have hy : 0 ≤ y := by
            rw [decide_eq_false (by omega)] at hs
            have := of_decide_eq_false hs.symm; omega
          rw [if_pos hx, if_pos hy, Int.sub_zero]
        · have hy : ¬ 0 ≤ y := by
            rw [decide_eq_true (by omega)] at hs
            have := of_decide_eq_true hs.symm; omega
          rw [if_neg hx, if_neg hy, Int.sign_eq_neg_one_of_neg (by omega)]; omega
      exact .inr ⟨.inr hs, e, by rw [e] at h2; omega⟩
    · have e : x.fdiv y = x.tdiv y - 1 := by
        rw [h]
        by_cases hx : 0 ≤ x
        · have hy : ¬ 0 ≤ y := fun hy => hs (by rw [decide_eq_false (by omega), decide_eq_false (by omega)])
          rw [if_pos hx, if_neg hy]
        · have hy : 0 ≤ y := by
            rcases Decidable.em (0 ≤ y) with hy | hy
            · exact hy
            · exact absurd (by rw [decide_eq_true (by omega), decide_eq_true (by omega)]) hs
          rw [if_neg hx, if_pos hy, Int.sign_eq_one_of_pos (by omega)]
      refine .inl ⟨hm, hs, e, ?_⟩
      rw [e, Int.mul_sub, Int.mul_one] at h2
      omega
theorem floor_sizes {x y : Int} (h0 : y ≠ 0) (hm : x.tmod y ≠ 0) : (x.tdiv y - 1).natAbs ≤ x.natAbs ∧ (x.tmod y).natAbs < y.natAbs ∧ (x.tdiv y).natAbs ≤ x.natAbs := by
  have h1 := Int.natAbs_tdiv x y
  have h2 := Int.natAbs_tmod x y
  have h3 : (x.tmod y).natAbs ≠ 0 := by omega
  obtain ⟨m, hm'⟩ : ∃ m, x.natAbs = m := ⟨_, rfl⟩
  obtain ⟨n, hn⟩ : ∃ n, y.natAbs = n := ⟨_, rfl⟩
  have hn0 : 0 < n := by omega
  have h1' : (x.tdiv y).natAbs = m / n := by rw [h1, hm', hn]; rfl
  have h2' : (x.tmod y).natAbs = m % n := by rw [h2, hm', hn]
  rw [hm', hn]
  have h4 : n ≠ 1 := by rintro rfl; rw [h2', Nat.mod_one] at h3; exact h3 rfl
  have h5 : m / n ≤ m / 2 := Nat.div_le_div_left (by omega) (by omega)
  have h6 := Nat.mod_lt m hn0
  have h7 : m ≠ 0 := by rintro rfl; rw [h2', Nat.zero_mod] at h3; exact h3 rfl
  omega
set_option maxHeartbeats 1000000 in
set_option maxRecDepth 100000 in
theorem divide_Floor (u v : Value) (x y : Int) (w : World) (hu : IntV w u x) (hv : IntV w v y) (lx : lc x.natAbs ≤ 4096) (ly : lc y.natAbs ≤ 4096) (h0 : y ≠ 0) (hg : lc y.natAbs ≤ 1200 ∨ lc x.natAbs ≤ lc y.natAbs + 800) :
    Calls Tryz.prog 75 #[u, v] w fun e w' => ∃ p q, e = .returned (.tuple #[p, q, .int .i64 0]) ∧ RawAt w' w.heap.size p (rawOf (x.fdiv y)) ∧ RawAt w' w.heap.size q (rawOf (x.fmod y)) ∧ Sep p q ∧ Below w.heap.size w w' := by
  obtain ⟨b1, A1, l1, c1, rfl, HU⟩ := hu.open
  obtain ⟨b2, A2, l2, c2, rfl, HV⟩ := hv.open
  have HP1 := Lib.hid HU.out.parts
  have HP2 := Lib.hid HV.out.parts
  have HLX := Lib.hid lx
  have HLY := Lib.hid ly
  have HG := Lib.hid hg
  have H0 := Lib.hid h0
  clear hu hv lx ly h0 hg
  go_enter Tryz.func75, Tryz.ntmps75
  go_wp2_with fail
  obtain ⟨W0, g, h, r, q, hW, hg, hh, hr, hq, bx, by_, br, bq, G_g, S_W0, hb⟩ := boxH4 w (.bool b1) (.slice A1 l1 c1) (.bool b2) (.slice A2 l2 c2) (.bool false) (.slice none 0 0) (.bool false) (.slice none 0 0)
  rw [hW, hq, hr, hh, hg]
  replace HU := Lib.hid (HU.out.stay hb)
  replace HV := Lib.hid (HV.out.stay hb)
  have B_W0 := Lib.hid (show Since w W0 from hb)
  clear hW hg hh hr hq hb
  have a0 := bx.out.cell0
  have a1 := bx.out.cell1
  have b0 := by_.out.cell0
  have b1 := by_.out.cell1
  go_wp2_with fail
  refine (divide_Trunc _ _ x y W0 HU.out HV.out HLX.out HLY.out H0.out HG.out).mono ?_
  rintro e w1 ⟨p, q', rfl, hp, hq, hs, hb⟩
  obtain ⟨bp, Ap, lp, cp, rfl, HP⟩ := hp.open
  obtain ⟨bm, Am, lm, cm, rfl, HM⟩ := hq.open
  have HS := Lib.hid hs
  clear hp hq hs
  replace HV := Lib.hid (HV.out.stay hb)
  replace bx := Lib.hid (bx.out.stay hb)
  replace by_ := Lib.hid (by_.out.stay hb)
  replace br := Lib.hid (br.out.stay hb)
  replace bq := Lib.hid (bq.out.stay hb)
  replace B_W0 := Lib.hid (B_W0.out.stay hb)
  clear hb a0 a1 b0 b1
  go_upto_region 2 with (fail)
  have HQL := Lib.hid bq.out.lt
  obtain ⟨W2, gp, gm, hW, hg, hr, bpp, bmm, G_gp, S_W2, hb⟩ := boxH2 w1 (.bool bp) (.slice Ap lp cp) (.bool bm) (.slice Am lm cm)
  rw [hW, hr, hg]
  replace HV := Lib.hid (HV.out.stay hb)
  replace HP := Lib.hid (HP.out.stay hb)
  replace HM := Lib.hid (HM.out.stay hb)
  replace bx := Lib.hid (bx.out.stay hb)
  replace by_ := Lib.hid (by_.out.stay hb)
  replace br := Lib.hid (br.out.stay hb)
  replace bq := Lib.hid (bq.out.stay hb)
  replace B_W0 := Lib.hid (B_W0.out.stay hb)
  have B_W2 := Lib.hid (show Since w1 W2 from hb)
  clear hW hg hr hb
  replace HQL := Lib.hid (show q < gp ∧ gp < gm by have h1 := HQL.out; have h2 := G_gp.out; omega)
  have HLM := Lib.hid HM.out.rawV.parts.2.1
  go_cut [31] (fun t wx => W2 = wx ∧ t = .bool (decide (lm ≠ 0) && (b1 != b2)))
  case first =>
    have a0 := bx.out.cell0
    have a1 := bx.out.cell1
    have k0 := by_.out.cell0
    have k1 := by_.out.cell1
    have c0 := bmm.out.cell0
    have c1 := bmm.out.cell1
    by_cases hl : lm = 0
    · subst hl
      go_wp2_with fail
      go_meet
      exact ⟨rfl, rfl⟩
    · have hlI : (0 : Int) < (lm : Int) := by omega
      have HL := Lib.hid hl
      clear hl
      rcases b1 <;> rcases b2
      all_goals
        go_wp2_with fail
        go_meet
        exact ⟨rfl, by rw [decide_eq_true HL.out]; rfl⟩
  case rest =>
    obtain ⟨rfl, rfl⟩ := hcut
    have HZ := Lib.hid (show lm = 0 ↔ x.tmod y = 0 by
      rw [HLM.out]
      constructor
      · intro h; have := limbs_eq_nil.1 (List.eq_nil_of_length_eq_zero h); omega
      · intro h; rw [h]; show (limbs 0).length = 0; rw [limbs_zero]; rfl)
    go_upto_if 31 with (fail)
    go_cut [] (fun wx => ∃ (bp : Bool) (Ap : Option Addr) (lp cp : Nat) (bm : Bool) (Am : Option Addr) (lm cm : Nat), Hid (Box2 wx gp (.bool bp) (.slice Ap lp cp)) ∧ Hid (Box2 wx gm (.bool bm) (.slice Am lm cm)) ∧ Hid (RawAt wx W0.heap.size (.agg #[.bool bp, .slice Ap lp cp]) (rawOf (x.fdiv y))) ∧ Hid (RawAt wx W0.heap.size (.agg #[.bool bm, .slice Am lm cm]) (rawOf (x.fmod y))) ∧
      Hid (Sep (.agg #[.bool bp, .slice Ap lp cp]) (.agg #[.bool bm, .slice Am lm cm])) ∧ Hid (Box2 wx r (.bool false) (.slice none 0 0)) ∧ Hid (Box2 wx q (.bool false) (.slice none 0 0)) ∧ Hid (Since w wx))
    case first =>
      rcases floor_case x y H0.out with ⟨hm, hs, hf, hr⟩ | ⟨hms, hf, hr⟩
      · have hcond : (decide (lm ≠ 0) && (b1 != b2)) = true := by
          have e : decide (lm ≠ 0) = true := decide_eq_true (fun h => hm (HZ.out.1 h))
          rw [HP1.out.1, HP2.out.1, e, Bool.true_and, bne_iff_ne]; exact hs
        have HSZ := Lib.hid (floor_sizes H0.out hm)
        have HFR := Lib.hid (And.intro hf hr)
        rw [hcond]
        clear hcond hm hs hf hr
        go_upto_region 3 with (fail)
        have a0 := bpp.out.cell0
        have a1 := bpp.out.cell1
        have fr := bpp.out.free
        have HL1 := Lib.hid (show lc (x.tdiv y - 1).natAbs ≤ 4096 ∧ lc (x.tdiv y).natAbs ≤ 4096 ∧ lc (1 : Int).natAbs ≤ 4096 from ⟨Nat.le_trans (lc_mono HSZ.out.1) HLX.out, Nat.le_trans (lc_mono HSZ.out.2.2) HLX.out, Nat.le_trans one_len (by omega)⟩)
        go_region_with (first
          | (go_at_call 38
             refine (limb_Of 1 _ (by omega) (by omega)).mono ?_
             rintro e w3 ⟨u1, rfl, hu1, hb⟩
             have HO := Lib.hid hu1.rawV.int
             replace hb : Below W2.heap.size W2 w3 := (below_drewN (Below.refl _ W2) 1).trans hb
             have HS3 := Lib.hid (show W0.heap.size ≤ w3.heap.size by have h1 := hb.size; have h2 := G_gp.out; have h3 := G_g.out; have h4 := S_W0.out; have h5 := HQL.out; have h6 := S_W2.out; omega)
             clear hu1 a0 a1 fr
             replace HP := Lib.hid (HP.out.stay hb)
             replace HM := Lib.hid (HM.out.stay hb)
             replace HV := Lib.hid (HV.out.stay hb)
             replace bpp := Lib.hid (bpp.out.stay hb)
             replace bmm := Lib.hid (bmm.out.stay hb)
             replace by_ := Lib.hid (by_.out.stay hb)
             replace br := Lib.hid (br.out.stay hb)
             replace bq := Lib.hid (bq.out.stay hb)
             replace B_W0 := Lib.hid (B_W0.out.stay hb)
             have a0 := bpp.out.cell0
             have a1 := bpp.out.cell1
             have fr := bpp.out.free
             clear hb)
          | (go_at_call 93
             refine (limb_Sub _ _ (x.tdiv y) 1 _ HP.out.rawV.int HO.out HL1.out.2.1 HL1.out.2.2).mono ?_
             rintro e w4 ⟨u2, rfl, hu2, hb⟩
             rw [longR_ok HL1.out.1, ← HFR.out.1] at hu2
             rw [longE_ok HL1.out.1]
             obtain ⟨bp', Ap', lp', cp', rfl, HPN⟩ := (hu2.since (base' := W0.heap.size) HS3.out).open
             clear hu2 a0 a1 fr HP HO
             replace HM := Lib.hid (HM.out.stay hb)
             replace HV := Lib.hid (HV.out.stay hb)
             replace bpp := Lib.hid (bpp.out.stay hb)
             replace bmm := Lib.hid (bmm.out.stay hb)
             replace by_ := Lib.hid (by_.out.stay hb)
             replace br := Lib.hid (br.out.stay hb)
             replace bq := Lib.hid (bq.out.stay hb)
             replace B_W0 := Lib.hid (B_W0.out.stay hb)
             have a0 := bpp.out.cell0
             have a1 := bpp.out.cell1
             have fr := bpp.out.free
             have HB4 := Lib.hid (show W0.heap.size ≤ gp by have h1 := G_g.out; have h2 := S_W0.out; have h3 := HQL.out; omega)
             clear hb))
        all_goals
          obtain ⟨W5, hW5, bpn, p5⟩ := bpp.out.write (.bool bp') (.slice Ap' lp' cp')
          rw [hW5]
          replace HM := Lib.hid (HM.out.put p5)
          replace HV := Lib.hid (HV.out.put p5)
          replace HPN := Lib.hid (HPN.out.put p5)
          replace bmm := Lib.hid (bmm.out.put p5 (by have := HQL.out; omega))
          replace by_ := Lib.hid (by_.out.put p5 (by have h1 := HQL.out; have h2 := G_g.out; omega))
          replace br := Lib.hid (br.out.put p5 (by have h1 := HQL.out; have h2 := G_g.out; omega))
          replace bq := Lib.hid (bq.out.put p5 (by have h1 := HQL.out; have h2 := G_g.out; omega))
          replace B_W0 := Lib.hid (B_W0.out.put p5 (by have h1 := HQL.out; have h2 := G_g.out; omega))
          clear hW5 p5 bpp a0 a1 fr
          have a0 := bmm.out.cell0
          have a1 := bmm.out.cell1
          have k0 := by_.out.cell0
          have k1 := by_.out.cell1
          have HL2 := Lib.hid (show lc (x.tmod y + y).natAbs ≤ 4096 ∧ lc (x.tmod y).natAbs ≤ 4096 by
            have h := fmod_size x H0.out
            rw [HFR.out.2] at h
            exact ⟨Nat.le_trans (lc_mono (Nat.le_of_lt h)) HLY.out, Nat.le_trans (lc_mono (Nat.le_of_lt HSZ.out.2.1)) HLY.out⟩)
          go_wp2_with fail
          refine (limb_Add _ _ (x.tmod y) y _ HM.out.rawV.int HV.out HL2.out.2 HLY.out).mono ?_
          rintro e w6 ⟨u3, rfl, hu3, hb⟩
          rw [longR_ok HL2.out.1, ← HFR.out.2] at hu3
          rw [longE_ok HL2.out.1]
          have hs := Sep.of_raw HPN.out hu3
          obtain ⟨bm', Am', lm', cm', rfl, HMN⟩ := hu3.open
          have HSN := Lib.hid hs
          replace HMN := Lib.hid (HMN.out.since (base' := W0.heap.size) (by have h1 := bpn.out.lt; have h2 := HB4.out; omega))
          clear hu3 hs HM HV by_ k0 k1 a0 a1
          replace HPN := Lib.hid (HPN.out.stay hb)
          replace bpn := Lib.hid (bpn.out.stay hb)
          replace bmm := Lib.hid (bmm.out.stay hb)
          replace br := Lib.hid (br.out.stay hb)
          replace bq := Lib.hid (bq.out.stay hb)
          replace B_W0 := Lib.hid (B_W0.out.stay hb)
          clear hb
          have a0 := bmm.out.cell0
          have a1 := bmm.out.cell1
          have fr := bmm.out.free
          go_upto_region 5 with (fail)
          obtain ⟨W7, hW7, bmn, p7⟩ := bmm.out.write (.bool bm') (.slice Am' lm' cm')
          rw [hW7]
          replace HMN := Lib.hid (HMN.out.put p7)
          replace HPN := Lib.hid (HPN.out.put p7)
          replace bpn := Lib.hid (bpn.out.put p7 (by have := HQL.out; omega))
          replace br := Lib.hid (br.out.put p7 (by have h1 := HQL.out; have h2 := G_g.out; omega))
          replace bq := Lib.hid (bq.out.put p7 (by have h1 := HQL.out; have h2 := G_g.out; omega))
          replace B_W0 := Lib.hid (B_W0.out.put p7 (by have h1 := HQL.out; have h2 := G_g.out; omega))
          clear hW7 p7 a0 a1 fr
          go_meet
          exact ⟨bp', Ap', lp', cp', bm', Am', lm', cm', bpn, bmn, HPN, HMN, HSN, br, bq, B_W0⟩
      · have hcond : (decide (lm ≠ 0) && (b1 != b2)) = false := by
          rw [HP1.out.1, HP2.out.1]
          rcases hms with h | h
          · have e : decide (lm ≠ 0) = false := decide_eq_false (fun h1 => h1 (HZ.out.2 h))
            rw [e, Bool.false_and]
          · rw [h]; simp
        have HFR := Lib.hid (And.intro hf hr)
        rw [hcond]
        clear hcond hms hf hr
        go_wp2_with fail
        go_meet
        rw [HFR.out.1, HFR.out.2]
        exact ⟨bp, Ap, lp, cp, bm, Am, lm, cm, bpp, bmm, HP, HM, HS, br, bq, B_W0⟩
    case rest =>
      clear HP HM bpp bmm bx by_ br bq B_W0 HS HLM HZ HV
      obtain ⟨bp, Ap, lp, cp, bm, Am, lm, cm, bpp, bmm, HP, HM, HS, br, bq, B_W0⟩ := hcut
      go_upto_region 5 with (fail)
      have hne : r ≠ q := by have := G_g.out; omega
      have HGG := Lib.hid (show w.heap.size ≤ r ∧ w.heap.size ≤ q ∧ w.heap.size ≤ W0.heap.size by have h1 := G_g.out; have h2 := S_W0.out; omega)
      have HX := Lib.hid (show (gp ≠ r ∧ gp ≠ q) ∧ (gm ≠ r ∧ gm ≠ q) by have h1 := G_g.out; have h2 := HQL.out; omega)
      have HNE := Lib.hid hne
      clear hne
      have a0 := later_duo bpp.out.cell0 HX.out.1.1 HX.out.1.2
      have a1 := later_duo bpp.out.cell1 HX.out.1.1 HX.out.1.2
      have k0 := later_duo bmm.out.cell0 HX.out.2.1 HX.out.2.2
      have k1 := later_duo bmm.out.cell1 HX.out.2.1 HX.out.2.2
      have HNN := Lib.hid (And.intro br.out.nums bq.out.nums)
      haveI : Nonempty (Later (Duo r q) wc) := ⟨⟨wc, (duo_drawn wc HNN.out.1 HNN.out.2).back⟩⟩
      refine wp_region_stages (fun w' => ∃ δ : Later (Duo r q) wc, w' = δ.world) [(false, 0), (false, 1), (false, 2), (true, 3), (true, 4)] 5 [.reads [_, _, _], .loud _, .loud _] [_] (by kernel_rfl) (by kernel_rfl) rfl rfl ?_ ?_
      · exact ⟨⟨_, duo_drawn wc HNN.out.1 HNN.out.2⟩, rfl⟩
      refine wpStages_reads ?_
      repeat (go_big_quiet_step (fail))
      refine wpQuiet_nil ?_
      clear a0 a1 k0 k1
      have ex : Ext Nix wc (wc.drewN 1) := nix_drawn wc
      have hb : Below wc.heap.size wc (wc.drewN 1) := below_drewN (Below.refl _ _) 1
      replace HP := Lib.hid (HP.out.stay hb)
      replace HM := Lib.hid (HM.out.stay hb)
      replace br := Lib.hid (br.out.stay hb)
      replace bq := Lib.hid (bq.out.stay hb)
      replace B_W0 := Lib.hid (B_W0.out.stay hb)
      clear hb
      replace ex := Lib.hid (duo_drawn wc HNN.out.1 HNN.out.2)
      refine wpStages_loud rfl ?_
      intro K hK
      have c0 := br.out.cell0
      have c1' := br.out.cell1
      have f0 := br.out.free
      go_big_op
      clear c0 c1' f0
      obtain ⟨Wr, hWr, br', p⟩ := br.out.write (.bool bp) (.slice Ap lp cp)
      rw [hWr]
      replace ex := Lib.hid (ex.out.duo1 HNN.out.1 HNN.out.2 p.ext)
      replace HP := Lib.hid (HP.out.put p)
      replace HM := Lib.hid (HM.out.put p)
      replace bq := Lib.hid (bq.out.put p HNE.out.symm)
      replace B_W0 := Lib.hid (B_W0.out.put p HGG.out.1)
      refine hK _ _ ⟨⟨_, ex.out⟩, rfl⟩ ?_
      clear hK K hWr p br
      refine wpStages_loud rfl ?_
      intro K hK
      have c0 := bq.out.cell0
      have c1' := bq.out.cell1
      have f0 := bq.out.free
      go_big_op
      clear c0 c1' f0
      obtain ⟨Wq, hWq, bq', p⟩ := bq.out.write (.bool bm) (.slice Am lm cm)
      rw [hWq]
      replace ex := Lib.hid (ex.out.duo2 HNN.out.1 HNN.out.2 p.ext)
      replace HP := Lib.hid (HP.out.put p)
      replace HM := Lib.hid (HM.out.put p)
      replace br' := Lib.hid (br'.out.put p HNE.out)
      replace B_W0 := Lib.hid (B_W0.out.put p HGG.out.2.1)
      refine hK _ _ ⟨⟨_, ex.out⟩, rfl⟩ ?_
      clear hK K hWq p bq
      refine wpStages_nil ?_
      go_wp2_with fail
      refine bodyPost_ret (v := .tuple #[.agg #[.bool bp, (.slice Ap lp cp)], .agg #[.bool bm, (.slice Am lm cm)], (.int .i64 0)]) (by
        rw [results_rec2 rfl]
        have hld := run_loadVar_row (P := Tryz.prog) _ r 24 24 #[.bool bp, (.slice Ap lp cp)] (0, 0) _ br'.out Tryz.underlying24 rfl (by kernel_rfl)
        have hld2 := run_loadVar_row (P := Tryz.prog) _ q 24 24 #[.bool bm, (.slice Am lm cm)] (0, 0) _ bq'.out Tryz.underlying24 rfl (by kernel_rfl)
        simp [asAddr, Result.andThen, hld, hld2]) rfl ?_
      exact ⟨_, _, rfl, HP.out.since HGG.out.2.2, HM.out.since HGG.out.2.2, HS.out, B_W0.out⟩
set_option maxHeartbeats 1000000 in
set_option maxRecDepth 100000 in
theorem divide_Exact (u v : Value) (x y : Int) (w : World) (hu : IntV w u x) (hv : IntV w v y) (lx : lc x.natAbs ≤ 4096) (ly : lc y.natAbs ≤ 4096) (h0 : y ≠ 0) (hg : lc y.natAbs ≤ 1200 ∨ lc x.natAbs ≤ lc y.natAbs + 800) :
    Calls Tryz.prog 107 #[u, v] w fun e w' => ∃ p, e = .returned (.tuple #[p, .bool (decide (x.tmod y = 0)), .int .i64 0]) ∧ RawAt w' w.heap.size p (if x.tmod y = 0 then rawOf (x.tdiv y) else (false, [])) ∧ Below w.heap.size w w' := by
  obtain ⟨b1, A1, l1, c1, rfl, HU⟩ := hu.open
  obtain ⟨b2, A2, l2, c2, rfl, HV⟩ := hv.open
  have HLX := Lib.hid lx
  have HLY := Lib.hid ly
  have HG := Lib.hid hg
  have H0 := Lib.hid h0
  clear hu hv lx ly h0 hg
  go_enter Tryz.func107, Tryz.ntmps107
  go_wp2_with fail
  obtain ⟨W0, g, h, r, hW, hg, hh, hr, bx, by_, br, G_g, S_W0, hb⟩ := boxH3 w (.bool b1) (.slice A1 l1 c1) (.bool b2) (.slice A2 l2 c2) (.bool false) (.slice none 0 0)
  rw [hW, hr, hh, hg]
  replace HU := Lib.hid (HU.out.stay hb)
  replace HV := Lib.hid (HV.out.stay hb)
  have B_W0 := Lib.hid (show Since w W0 from hb)
  clear hW hg hh hr hb
  have a0 := bx.out.cell0
  have a1 := bx.out.cell1
  have k0 := by_.out.cell0
  have k1 := by_.out.cell1
  go_wp2_with fail
  refine (divide_Trunc _ _ x y W0 HU.out HV.out HLX.out HLY.out H0.out HG.out).mono ?_
  rintro e w1 ⟨p, q', rfl, hp, hq, hs, hb⟩
  obtain ⟨bp, Ap, lp, cp, rfl, HP⟩ := hp.open
  obtain ⟨bm, Am, lm, cm, rfl, HM⟩ := hq.open
  clear hp hq hs
  replace br := Lib.hid (br.out.stay hb)
  replace B_W0 := Lib.hid (B_W0.out.stay hb)
  clear hb a0 a1 k0 k1
  go_upto_region 2 with (fail)
  have HQL := Lib.hid br.out.lt
  obtain ⟨W2, gp, gm, hW, hg, hr, bpp, bmm, G_gp, S_W2, hb⟩ := boxH2 w1 (.bool bp) (.slice Ap lp cp) (.bool bm) (.slice Am lm cm)
  rw [hW, hr, hg]
  replace HP := Lib.hid (HP.out.stay hb)
  replace HM := Lib.hid (HM.out.stay hb)
  replace br := Lib.hid (br.out.stay hb)
  replace B_W0 := Lib.hid (B_W0.out.stay hb)
  have B_W2 := Lib.hid (show Since w1 W2 from hb)
  clear hW hg hr hb
  replace HQL := Lib.hid (show r < gp ∧ gp < gm by have h1 := HQL.out; have h2 := G_gp.out; omega)
  have HZ := Lib.hid (show lm = 0 ↔ x.tmod y = 0 by
    rw [HM.out.rawV.parts.2.1]
    constructor
    · intro h; have := limbs_eq_nil.1 (List.eq_nil_of_length_eq_zero h); omega
    · intro h; rw [h]; show (limbs 0).length = 0; rw [limbs_zero]; rfl)
  have HGG := Lib.hid (show w.heap.size ≤ r ∧ w.heap.size ≤ W0.heap.size by have h1 := G_g.out; have h2 := S_W0.out; omega)
  have a0 := bpp.out.cell0
  have a1 := bpp.out.cell1
  have k0 := bmm.out.cell0
  have k1 := bmm.out.cell1
  have c0 := br.out.cell0
  have c1 := br.out.cell1
  have fr := br.out.free
  by_cases hl : lm = 0
  · subst hl
    have HZ0 := Lib.hid (HZ.out.1 rfl)
    go_wp2_with fail
    refine bodyPost_ret (v := .tuple #[.agg #[.bool bp, (.slice Ap lp cp)], (.bool true), (.int .i64 0)]) (by
      rw [results_rec_two rfl]
      have hld := run_loadVar_row (P := Tryz.prog) _ r 24 24 #[.bool bp, (.slice Ap lp cp)] (0, 0) _ br.out.store Tryz.underlying24 rfl (by kernel_rfl)
      simp [asAddr, Result.andThen, hld]) rfl ?_
    exact ⟨_, rfl, (HP.out.since HGG.out.2).store2 br.out.nums _ _, store2_below B_W0.out HGG.out.1⟩
  · have hlI : (0 : Int) < (lm : Int) := by omega
    have HZ0 := Lib.hid (show x.tmod y ≠ 0 from fun h => hl (HZ.out.2 h))
    clear hl
    go_wp2_with fail
    refine bodyPost_ret (v := .tuple #[.agg #[.bool false, (.slice none 0 0)], (.bool false), (.int .i64 0)]) (by
      rw [results_rec_two rfl]
      have hld := run_loadVar_row (P := Tryz.prog) _ r 24 24 #[.bool false, (.slice none 0 0)] (0, 0) _ br.out.store Tryz.underlying24 rfl (by kernel_rfl)
      simp [asAddr, Result.andThen, hld]) rfl ?_
    exact ⟨_, rfl, RawAt.zero _ _, store2_below B_W0.out HGG.out.1⟩
/-- Mod's errno and answer. -/
def modE (y : Int) : Int := if y < 0 then 2 else 0
def modR (x y : Int) : Raw := if y < 0 then (false, []) else rawOf (x.fmod y)
set_option maxHeartbeats 1000000 in
set_option maxRecDepth 100000 in
theorem divide_Mod (u v : Value) (x y : Int) (w : World) (hu : IntV w u x) (hv : IntV w v y) (lx : lc x.natAbs ≤ 4096) (ly : lc y.natAbs ≤ 4096) (h0 : y ≠ 0) (hg : lc y.natAbs ≤ 1200 ∨ lc x.natAbs ≤ lc y.natAbs + 800) :
    Calls Tryz.prog 49 #[u, v] w fun e w' => ∃ p, e = .returned (.tuple #[p, .int .i64 (modE y)]) ∧ RawAt w' w.heap.size p (modR x y) ∧ Below w.heap.size w w' := by
  obtain ⟨b1, A1, l1, c1, rfl, HU⟩ := hu.open
  obtain ⟨b2, A2, l2, c2, rfl, HV⟩ := hv.open
  have HP2 := Lib.hid HV.out.parts.1
  have HLX := Lib.hid lx
  have HLY := Lib.hid ly
  have HG := Lib.hid hg
  have H0 := Lib.hid h0
  clear hu hv lx ly h0 hg
  go_enter Tryz.func49, Tryz.ntmps49
  go_wp2_with fail
  obtain ⟨W0, g, h, r, hW, hg, hh, hr, bx, by_, br, G_g, S_W0, hb⟩ := boxH3 w (.bool b1) (.slice A1 l1 c1) (.bool b2) (.slice A2 l2 c2) (.bool false) (.slice none 0 0)
  rw [hW, hr, hh, hg]
  replace HU := Lib.hid (HU.out.stay hb)
  replace HV := Lib.hid (HV.out.stay hb)
  have B_W0 := Lib.hid (show Since w W0 from hb)
  clear hW hg hh hr hb
  have a0 := bx.out.cell0
  have a1 := bx.out.cell1
  have k0 := by_.out.cell0
  have k1 := by_.out.cell1
  go_wp2_with fail
  refine (divide_Floor _ _ x y W0 HU.out HV.out HLX.out HLY.out H0.out HG.out).mono ?_
  rintro e w1 ⟨p, q', rfl, hp, hq, hs, hb⟩
  obtain ⟨bp, Ap, lp, cp, rfl, HP⟩ := hp.open
  obtain ⟨bm, Am, lm, cm, rfl, HM⟩ := hq.open
  clear hp hq hs
  replace by_ := Lib.hid (by_.out.stay hb)
  replace br := Lib.hid (br.out.stay hb)
  replace B_W0 := Lib.hid (B_W0.out.stay hb)
  clear hb a0 a1 k0 k1
  go_upto_region 2 with (fail)
  obtain ⟨W2, gp, gm, hW, hg, hr, bpp, bmm, G_gp, S_W2, hb⟩ := boxH2 w1 (.bool bp) (.slice Ap lp cp) (.bool bm) (.slice Am lm cm)
  rw [hW, hr, hg]
  replace HM := Lib.hid (HM.out.stay hb)
  replace by_ := Lib.hid (by_.out.stay hb)
  replace br := Lib.hid (br.out.stay hb)
  replace B_W0 := Lib.hid (B_W0.out.stay hb)
  have B_W2 := Lib.hid (show Since w1 W2 from hb)
  clear hW hg hr hb
  have HGG := Lib.hid (show w.heap.size ≤ r ∧ w.heap.size ≤ W0.heap.size by have h1 := G_g.out; have h2 := S_W0.out; omega)
  have a0 := by_.out.cell0
  have a1 := by_.out.cell1
  have k0 := bmm.out.cell0
  have k1 := bmm.out.cell1
  have c0 := br.out.cell0
  have c1 := br.out.cell1
  have fr := br.out.free
  by_cases hy : y < 0
  · obtain rfl : b2 = true := by rw [HP2.out]; exact decide_eq_true hy
    have HY := Lib.hid hy
    clear hy
    go_wp2_with fail
    refine bodyPost_ret (v := .tuple #[.agg #[.bool false, (.slice none 0 0)], (.int .i64 2)]) (by
      rw [results_cell_tmp rfl]
      have hld := run_loadVar_row (P := Tryz.prog) _ r 24 24 #[.bool false, (.slice none 0 0)] (0, 0) _ br.out.store Tryz.underlying24 rfl (by kernel_rfl)
      simp [asAddr, Result.andThen, hld]) rfl ?_
    have e1 : modE y = 2 := if_pos HY.out
    have e2 : modR x y = (false, []) := if_pos HY.out
    rw [e1, e2]
    exact ⟨_, rfl, RawAt.zero _ _, store2_below B_W0.out HGG.out.1⟩
  · obtain rfl : b2 = false := by rw [HP2.out]; exact decide_eq_false hy
    have HY := Lib.hid hy
    clear hy
    go_wp2_with fail
    refine bodyPost_ret (v := .tuple #[.agg #[.bool bm, (.slice Am lm cm)], (.int .i64 0)]) (by
      rw [results_cell_tmp rfl]
      have hld := run_loadVar_row (P := Tryz.prog) _ r 24 24 #[.bool bm, (.slice Am lm cm)] (0, 0) _ br.out.store Tryz.underlying24 rfl (by kernel_rfl)
      simp [asAddr, Result.andThen, hld]) rfl ?_
    have e1 : modE y = 0 := if_neg (by have := HY.out; omega)
    have e2 : modR x y = rawOf (x.fmod y) := if_neg (by have := HY.out; omega)
    rw [e1, e2]
    exact ⟨_, rfl, (HM.out.since HGG.out.2).store2 br.out.nums _ _, store2_below B_W0.out HGG.out.1⟩
end Go.Proofs.YtjbagikfogejnaaGreatDoor
/- The package times: trim, school. -/
namespace Go.Proofs.YtjbagikfogejnaaGreatDoor
open Go.RowKit Go.Deep
set_option maxHeartbeats 400000 in
theorem times_trim (A : Option Addr) (c : Nat) (xs : List Nat) (w : World) {B : Nat} (h : Lim w B A xs) (_hc : xs.length ≤ c) (_hl : xs.length ≤ 35184372088832) :
    Calls Tryz.prog 171 #[.slice A xs.length c] w fun e w' => e = .returned (.slice A (limbs (val xs)).length c) ∧ w = w' := by
  rw [← trimL_eq h.small]
  go_enter Tryz.func171, Tryz.ntmps171
  go_wp2
  go_loop [0] (fun v => ∃ n : Nat, n ≤ xs.length ∧ v = .slice A n c ∧ trimL (xs.take n) = trimL xs) (fun v => match v with | .slice _ n _ => n | _ => 0)
  case atStart => exact ⟨xs.length, Nat.le_refl _, rfl, by simp⟩
  case round =>
    obtain ⟨n, hn, rfl, ht⟩ := hrel
    have HT := Lib.hid ht
    clear ht
    rcases n with _ | n
    · go_wp2
      go_ret
      exact ⟨by rw [← HT.out]; rfl, rfl⟩
    · obtain ⟨ad, rfl, hb, hcell⟩ := h.at_ (k := n) (by omega)
      generalize hx : xs.getD n 0 = x at *
      have HX := Lib.hid hx
      clear hx
      go_wp2
      · have hx : ((x : Int) == 0) = true := by assumption
        simp only [beq_iff_eq] at hx
        refine ⟨⟨n, by omega, rfl, ?_⟩, by simp⟩
        rw [← HT.out, trimL_zero xs n (by omega) (by have := HX.out; omega)]
      · have hx : ((x : Int) == 0) = false := by assumption
        simp only [beq_eq_false_iff_ne] at hx
        go_ret
        have e : (trimL xs).length = n + 1 := by
          rw [← HT.out, trimL_pos xs n (by omega) (by have := HX.out; omega), List.length_take]; omega
        exact ⟨by rw [e]; rfl, rfl⟩
theorem school_step {lo hi o s1 c1 s c2 carry x y : Nat} (h1 : lo + W64 * hi = x * y) (h2 : s1 + W64 * c1 = lo + carry + 0) (h3 : s + W64 * c2 = o + s1 + 0) : s + W64 * (hi + c1 + c2) = x * y + o + carry := by
  rw [Nat.mul_add, Nat.mul_add]; omega
set_option maxHeartbeats 1600000 in
set_option maxRecDepth 100000 in
theorem times_school (A1 A2 : Option Addr) (l1 l2 c1 c2 : Nat) (xs ys : List Nat) (w : World) (h1 : Lim w w.heap.size A1 xs) (h2 : Lim w w.heap.size A2 ys) (e1 : l1 = xs.length) (e2 : l2 = ys.length) (hl : l1 + l2 ≤ 1099511627776) :
    Calls Tryz.prog 136 #[.slice A1 l1 c1, .slice A2 l2 c2] w fun e w' => ∃ A c, e = .returned (.slice A (limbs (val xs * val ys)).length c) ∧ (limbs (val xs * val ys)).length ≤ c ∧ Lim w' w'.heap.size A (limbs (val xs * val ys)) ∧ Fresh w' w.heap.size A c ∧ Below w.heap.size w w' := by
  have hmk := make_limbs (l1 + l2) (by omega)
  rw [Int.natCast_add] at hmk
  have E1 := Lib.hid e1
  have E2 := Lib.hid e2
  clear e1 e2
  go_enter Tryz.func136, Tryz.ntmps136
  go_wp2_with fail
  go_loopw [20] (fun t31 wr => ∃ (i : Nat) (os : List Nat), i ≤ l1 ∧ os.length = l1 + l2 ∧ t31 = .int .i64 (i : Int) ∧ Row wr w.heap.size os ∧ Fresh wr w.heap.size (some ⟨w.heap.size, 0, none⟩) (l1 + l2) ∧ Below w.heap.size w wr ∧ val (os.take (i + l2)) = val (xs.take i) * val ys) (fun t31 _ => l1 - (intOf t31).toNat)
  case atStart =>
    refine ⟨0, List.replicate (l1 + l2) 0, by omega, by simp, rfl, Row.made _ _, Fresh.made _ _, (Below.refl _ _).alloc (Nat.le_refl _) _, ?_⟩
    rw [List.take_replicate, val_zeros]; simp
  case round =>
    obtain ⟨i, os0, hi, ho0, rfl, hrow0, hfr0, hbel0, hval0⟩ := hrel
    have HV0 := Lib.hid hval0
    have HO0 := Lib.hid ho0
    have HF0 := Lib.hid hfr0
    clear hval0 ho0 hfr0
    by_cases hlt : i < l1
    · obtain ⟨x, hx⟩ : ∃ x, xs.getD i 0 = x := ⟨_, rfl⟩
      have hxs : x < W64 := hx ▸ h1.small.getD i
      have HX := Lib.hid hx
      have hltI : (i : Int) < (l1 : Int) := by omega
      clear hx
      go_wp2_with fail
      obtain ⟨wo, hwo⟩ : ∃ wo : World, wo = wr := ⟨_, rfl⟩
      subst hwo
      go_loopw [7, 25] (fun t8 t38 wr => ∃ (k c : Nat) (os : List Nat), k ≤ l2 ∧ c < W64 ∧ os.length = l1 + l2 ∧ t8 = .int .u64 (c : Int) ∧ t38 = .int .i64 (k : Int) ∧ Row wr w.heap.size os ∧ Fresh wr w.heap.size (some ⟨w.heap.size, 0, none⟩) (l1 + l2) ∧ Below w.heap.size w wr ∧ os.drop (i + k) = os0.drop (i + k) ∧ val (os.take (i + k)) + W64 ^ (i + k) * c = val (os0.take (i + k)) + W64 ^ i * (x * val (ys.take k))) (fun _ t38 _ => l2 - (intOf t38).toNat)
      case atStart => exact ⟨0, 0, os0, by omega, W64_pos, HO0.out, rfl, rfl, hrow0, HF0.out, hbel0, rfl, by simp⟩
      case round =>
        clear hrow0 hbel0
        obtain ⟨k, c, os, hk, hc, ho, rfl, rfl, hrow, hfr, hbel, hdrop, hval⟩ := hrel
        have HV := Lib.hid hval
        have HO := Lib.hid ho
        have HD := Lib.hid hdrop
        have HF := Lib.hid hfr
        clear hval ho hdrop hfr
        by_cases hlk : k < l2
        · obtain ⟨ad, hA1, hb, hcell⟩ := (h1.below hbel).at_ (k := i) (by rw [← E1.out]; exact hlt)
          subst hA1
          rw [HX.out] at hcell
          obtain ⟨ad2, hA2, hb2, hcell2⟩ := (h2.below hbel).at_ (k := k) (by rw [← E2.out]; exact hlk)
          subst hA2
          obtain ⟨y, hy⟩ : ∃ y, ys.getD k 0 = y := ⟨_, rfl⟩
          have hys : y < W64 := hy ▸ h2.small.getD k
          rw [hy] at hcell2
          have hcg := hrow.cell (k := i + k) (by rw [HO.out]; omega)
          have hfg := hrow.free (i + k)
          obtain ⟨o, hoo⟩ : ∃ o, os.getD (i + k) 0 = o := ⟨_, rfl⟩
          have hos : o < W64 := hoo ▸ hrow.small.getD (i + k)
          rw [hoo] at hcg
          have hstep := school_step (mul_split x y) (add_split (mulLo x y) c 0) (add_split o (addLo (mulLo x y) c 0) 0)
          have hbd := limb_mul_bound hxs hys hos hc hstep
          have hstep2 : val ((os.set (i + k) (addLo o (addLo (mulLo x y) c 0) 0)).take (i + (k + 1))) + W64 ^ (i + (k + 1)) * (mulHi x y + addHi (mulLo x y) c 0 + addHi o (addLo (mulLo x y) c 0) 0) = val (os0.take (i + (k + 1))) + W64 ^ i * (x * val (ys.take (k + 1))) := by
            have hV := HV.out
            have ho2 : os0.getD (i + k) 0 = o := by
              have := congrArg (fun l => l.getD 0 0) HD.out
              rw [← hoo]; simpa using this.symm
            rw [← Nat.add_assoc, val_take_set os _ _ (by rw [HO.out]; omega), val_take_step os0, val_take_step ys, hy, ho2, Nat.pow_succ]
            rw [Nat.pow_add] at hV ⊢
            generalize val (os.take (i + k)) = a1 at *
            generalize val (os0.take (i + k)) = a2 at *
            generalize val (ys.take k) = a3 at *
            generalize W64 ^ i = P at *
            generalize W64 ^ k = Q at *
            generalize addLo o (addLo (mulLo x y) c 0) 0 = s at *
            generalize mulHi x y + addHi (mulLo x y) c 0 + addHi o (addLo (mulLo x y) c 0) 0 = d at *
            have : P * Q * (s + W64 * d) = P * Q * (x * y + o + c) := by rw [hstep]
            grind
          have hb1 := lt_W64 (x := mulHi x y + addHi (mulLo x y) c 0) (by omega)
          have hb2 := lt_W64 hbd
          rw [Int.natCast_add] at hb1 hb2
          rw [Int.natCast_add] at hb2
          have HROW := Lib.hid hrow
          have HBEL := Lib.hid hbel
          have HL := Lib.hid (show (os.set (i + k) (addLo o (addLo (mulLo x y) c 0) 0)).length = l1 + l2 by rw [List.length_set, HO.out])
          have HDD := Lib.hid (show (os.set (i + k) (addLo o (addLo (mulLo x y) c 0) 0)).drop (i + (k + 1)) = os0.drop (i + (k + 1)) by
            rw [List.drop_set_of_lt (by omega)]
            have := congrArg (List.drop 1) HD.out
            simpa [Nat.add_assoc] using this)
          have HS := Lib.hid hstep2
          have HY := Lib.hid hy
          have HOO := Lib.hid hoo
          have hm := fun n => quiet_left (bits_mul64 x y hxs hys (wr.drewN n))
          have HM := Lib.hid hm
          have r1 := later_cell hcell
          clear hstep2 hstep hy hoo hm hrow hbel
          have ha1 := add64_run0 (mulLo x y) c
          have ha2 := add64_run0 o (addLo (mulLo x y) c 0)
          have hklI : (k : Int) < (l2 : Int) := by omega
          go_wp2_with fail
          go_quiet ((go_at_call 170; exact quiet_left (bits_mul64 x y hxs hys _)))
          have hrow2 := HROW.out.drewN nq
          have hbel2 := below_drewN HBEL.out nq
          have hfr2 : Fresh (wr.drewN nq) w.heap.size (some ⟨w.heap.size, 0, none⟩) (l1 + l2) := HF.out
          have hcg2 : (wr.drewN nq).cell? ⟨w.heap.size, i + k, none⟩ = some (.int .u64 (o : Int)) := hcg
          have hfg2 : (wr.drewN nq).frozen? ⟨w.heap.size, i + k, none⟩ = false := hfg
          generalize wr.drewN nq = w2 at hrow2 hbel2 hfr2 hcg2 hfg2 ⊢
          have hset := hrow2.set (k := i + k) (x := addLo o (addLo (mulLo x y) c 0) 0) (by rw [HO.out]; omega) (addLo_lt _ _ _)
          have hbel' := hbel2.setCell (p := ⟨w.heap.size, i + k, none⟩) (Nat.le_refl _) (.int .u64 (addLo o (addLo (mulLo x y) c 0) 0 : Int))
          have hfr' := hfr2.set w.heap.size (i + k) (.int .u64 (addLo o (addLo (mulLo x y) c 0) 0 : Int))
          have HSET := Lib.hid hset
          have HBL := Lib.hid hbel'
          have HFR := Lib.hid hfr'
          clear hset hbel' hfr' hrow2 hbel2 hfr2 hcg hfg r1
          go_wp2_with fail
          exact ⟨⟨k + 1, _, _, by omega, hbd, HL.out, by simp only [Int.natCast_add], by go_num, HSET.out, HFR.out, HBL.out, HDD.out, HS.out⟩, by simp [intOf]; omega⟩
        · obtain rfl : k = l2 := by omega
          have hcg := hrow.cell (k := i + k) (by rw [HO.out]; omega)
          have hfg := hrow.free (i + k)
          have hset := hrow.set (k := i + k) (x := c) (by rw [HO.out]; omega) hc
          have hbel' := hbel.setCell (p := ⟨w.heap.size, i + k, none⟩) (Nat.le_refl _) (.int .u64 (c : Int))
          have hfr' := HF.out.set w.heap.size (i + k) (.int .u64 (c : Int))
          have HL := Lib.hid (show (os.set (i + k) c).length = l1 + k by rw [List.length_set, HO.out])
          have HS := Lib.hid (show val ((os.set (i + k) c).take (i + 1 + k)) = val (xs.take (i + 1)) * val ys by
            have hV := HV.out
            have hV0 := HV0.out
            rw [show i + 1 + k = i + k + 1 by omega, val_take_set os _ _ (by rw [HO.out]; omega), hV, val_take_step xs, HX.out, List.take_of_length_le (l := ys) (by rw [← E2.out]; exact Nat.le_refl _), hV0, Nat.add_mul, Nat.mul_assoc])
          have hkkI : ¬ ((k : Int) < (k : Int)) := by omega
          go_wp2_with fail
          exact ⟨⟨i + 1, _, by omega, HL.out, by go_num, hset, hfr', hbel', HS.out⟩, by simp [intOf]; omega⟩
    · obtain rfl : i = l1 := by omega
      have HF := Lib.hid (show val os0 = val xs * val ys by
        have hV := HV0.out
        rwa [List.take_of_length_le (l := os0) (by rw [HO0.out]; exact Nat.le_refl _), List.take_of_length_le (l := xs) (by rw [← E1.out]; exact Nat.le_refl _)] at hV)
      go_wp2_with fail
      have hex : i + l2 = os0.length := HO0.out.symm
      rw [hex]
      refine (times_trim _ _ _ _ (hrow0.lim (B := w.heap.size + 1) (by omega)) (Nat.le_refl _) (by rw [HO0.out]; omega)).mono ?_
      rintro e w1 ⟨rfl, rfl⟩
      rw [HF.out]
      go_wp2_with fail
      go_ret
      have hl3 := limbs_val_le hrow0.small
      rw [HF.out] at hl3
      have hlim := (hrow0.lim (B := w.heap.size + 1) (by omega)).trim.more hrow0.lt
      rw [HF.out] at hlim
      exact ⟨_, _, rfl, hl3, hlim, by rw [← hex]; exact HF0.out, hbel0⟩
end Go.Proofs.YtjbagikfogejnaaGreatDoor
/- The package times: deep, told, Mul (where one of both is short). -/
namespace Go.Proofs.YtjbagikfogejnaaGreatDoor
open Go.RowKit Go.Deep
set_option maxRecDepth 100000 in
theorem times_deep1 (A1 A2 : Option Addr) (l1 l2 c1 c2 d g : Nat) (xs ys : List Nat) (w : World) (h1 : Lim w w.heap.size A1 xs) (h2 : Lim w w.heap.size A2 ys) (e1 : l1 = xs.length) (e2 : l2 = ys.length) (hl : l1 + l2 ≤ 1099511627776)
    (hd : w.cell? ⟨d, 0, none⟩ = some (.int .i64 24)) (hs : min l1 l2 < 24) :
    Calls Tryz.prog 135 #[.slice A1 l1 c1, .slice A2 l2 c2, .pointer (some ⟨d, 0, none⟩), .pointer (some ⟨g, 0, none⟩)] w fun e w' => ∃ A c, e = .returned (.slice A (limbs (val xs * val ys)).length c) ∧ (limbs (val xs * val ys)).length ≤ c ∧ Lim w' w'.heap.size A (limbs (val xs * val ys)) ∧ Fresh w' w.heap.size A c ∧ Below w.heap.size w w' := by
  have hsI : min (l1 : Int) (l2 : Int) < 24 := by omega
  have E1 := Lib.hid e1
  have E2 := Lib.hid e2
  clear e1 e2 hs
  go_enter Tryz.func135, Tryz.ntmps135
  go_wp2_with fail
  refine (times_school A1 A2 l1 l2 c1 c2 xs ys w h1 h2 E1.out E2.out hl).mono ?_
  rintro e w1 ⟨A, c, rfl, hc, hlim, hf, hb⟩
  go_wp2_with fail
  go_ret
  exact ⟨A, c, rfl, hc, hlim, hf, hb⟩
set_option maxRecDepth 100000 in
theorem times_deep (w : World) :
    Calls Tryz.prog 92 #[.int .i64 24] w fun e w' => ∃ d g, e = .returned (.func (.func 135) #[] #[.pointer (some ⟨d, 0, none⟩), .pointer (some ⟨g, 0, none⟩)]) ∧ d = w.heap.size ∧ g = w.heap.size + 1 ∧ w'.heap.size = w.heap.size + 2 ∧ Below w.heap.size w w' ∧
      w'.cell? ⟨d, 0, none⟩ = some (.int .i64 24) ∧ w'.cell? ⟨g, 0, none⟩ = some (.func (.func 135) #[] #[.pointer (some ⟨d, 0, none⟩), .pointer (some ⟨g, 0, none⟩)]) := by
  go_enter Tryz.func92, Tryz.ntmps92
  go_wp2_with fail
  go_ret
  refine ⟨w.heap.size, w.heap.size + 1, rfl, rfl, rfl, by simp, ?_, ?_, ?_⟩
  · first
    | exact ((Below.refl _ w).alloc (Nat.le_refl _) _).alloc (by simp) _
    | exact (((Below.refl _ w).alloc (Nat.le_refl _) _).alloc (by simp) _).setCell (p := ⟨w.heap.size + 1, 0, none⟩) (by simp) _
  · rw [cell_of_row _ _ 0 #[.int .i64 24] 3 (0, 0)]
    · rfl
    · rw [Below.heap_alloc _ _ _ (by simp)]; exact heap_alloc_new w _
  · rw [cell_of_row _ _ 0 #[.func (.func 135) #[] #[.pointer (some ⟨w.heap.size, 0, none⟩), .pointer (some ⟨w.heap.size + 1, 0, none⟩)]] _ (0, 0)]
    · rfl
    · have h := heap_alloc_new (w.alloc (.cells #[.int .i64 24] 3)) (.cells #[.func (.func 135) #[] #[.pointer (some ⟨w.heap.size, 0, none⟩), .pointer (some ⟨w.heap.size + 1, 0, none⟩)]] 68)
      simpa using h
theorem lc_mul_ge {x y : Nat} (hx : 0 < x) (hy : 0 < y) : lc x + lc y ≤ lc (x * y) + 1 := by
  have h1 : W64 ^ (lc x - 1) ≤ x := by
    have h : ¬ lc x ≤ lc x - 1 := fun h => by
      have : lc x = 0 := by omega
      have := lc_eq_zero.1 this; omega
    rw [lc_le] at h; omega
  have h2 : W64 ^ (lc y - 1) ≤ y := by
    have h : ¬ lc y ≤ lc y - 1 := fun h => by
      have : lc y = 0 := by omega
      have := lc_eq_zero.1 this; omega
    rw [lc_le] at h; omega
  have h3 := Nat.mul_le_mul h1 h2
  rw [← Nat.pow_add] at h3
  have h4 : ¬ lc (x * y) ≤ lc x - 1 + (lc y - 1) := fun h => by
    rw [lc_le] at h; omega
  omega
end Go.Proofs.YtjbagikfogejnaaGreatDoor
/- The package times: put, take, sum. -/
namespace Go.Proofs.YtjbagikfogejnaaGreatDoor
open Go.RowKit Go.Deep
/-- Row g was written; it is limbs still. -/
def Grew (w w' : World) (g : Nat) : Prop := w.grownBy w' (some g) ∧ ∀ base c, Fresh w base (some ⟨g, 0, none⟩) c → Fresh w' base (some ⟨g, 0, none⟩) c
theorem Grew.refl (w : World) (g : Nat) : Grew w w g := ⟨⟨rfl, rfl, rfl, Nat.le_refl _, fun _ _ _ => rfl⟩, fun _ _ h => h⟩
theorem Grew.set {w w1 : World} {g : Nat} (h : Grew w w1 g) (k : Nat) (u : Value) : Grew w (w1.setCell ⟨g, k, none⟩ u) g := ⟨grownBy_trans h.1 (only_set w1 ⟨g, k, none⟩ u), fun b c hf => (h.2 b c hf).set g k u⟩
theorem Grew.drewN {w w1 : World} {g : Nat} (h : Grew w w1 g) (m : Nat) : Grew w (w1.drewN m) g := ⟨grownBy_trans h.1 (drew_grown w1 m _), fun b c hf => (h.2 b c hf).below (below_drewN (Below.refl _ _) m)⟩
theorem put_step {a1 a2 P M c x d u c' y V : Nat} (h : a1 + P * c = a2 + M * V) (hs : d + W64 * c' = u + y + c) (hP : P = M * x) : a1 + P * d + P * W64 * c' = a2 + P * u + M * (V + x * y) := by
  have h5 : P * (d + W64 * c') = P * (u + y + c) := by rw [hs]
  subst hP
  grind
theorem wraps_small {n : Int} (h0 : 0 ≤ n) (h1 : n < 9223372036854775808) : IntKind.i64.wrap n = n ∧ wrap64 n = n := by
  constructor
  · rw [IntKind.wrap_i64]; omega
  · unfold wrap64; omega
theorem sum_small {a i l lo : Nat} (h : a + l ≤ lo) (hi : i < l) (hlo : lo ≤ 1099511627776) : 0 ≤ (a : Int) + (i : Int) ∧ (a : Int) + (i : Int) < 9223372036854775808 ∧ (a : Int) + (i : Int) < (lo : Int) ∧ ((a : Int) + (i : Int)).toNat = a + i := by omega
set_option maxHeartbeats 4000000 in
set_option maxRecDepth 100000 in
theorem times_put (g lo co at_ : Nat) (os : List Nat) (A2 : Option Addr) (l2 c2 : Nat) (xs : List Nat) (w : World) (hrow0 : Row w g os) (h2 : Lim w w.heap.size A2 xs) (hne : 0 < xs.length → ∀ ad, A2 = some ad → ad.block ≠ g) (elo : lo = os.length) (el2 : l2 = xs.length) (hat : at_ + l2 ≤ lo) (hfit : val os + W64 ^ at_ * val xs < W64 ^ lo) (hl : lo ≤ 1099511627776) :
    Calls Tryz.prog 172 #[.slice (some ⟨g, 0, none⟩) lo co, .slice A2 l2 c2, .int .i64 (at_ : Int)] w fun e w' => ∃ v os', e = .returned v ∧ Row w' g os' ∧ os'.length = lo ∧ val os' = val os + W64 ^ at_ * val xs ∧ Grew w w' g := by
  have HF := Lib.hid hfit
  have HLO := Lib.hid elo
  have HL2 := Lib.hid el2
  have hloI : (lo : Int) ≤ 1099511627776 := by omega
  have hatI : (at_ : Int) + (l2 : Int) ≤ (lo : Int) := by omega
  clear hfit elo el2
  go_enter Tryz.func172, Tryz.ntmps172
  go_wp2_with fail
  go_loopw [6, 11] (fun t6 t11 wr => ∃ (i c : Nat) (os1 : List Nat), i ≤ l2 ∧ c ≤ 1 ∧ t6 = .int .u64 (c : Int) ∧ t11 = .int .i64 (i : Int) ∧ Hid (os1.length = lo) ∧ Hid (Row wr g os1) ∧ Hid (Grew w wr g) ∧ Hid (os1.drop (at_ + i) = os.drop (at_ + i)) ∧ Hid (val (os1.take (at_ + i)) + W64 ^ (at_ + i) * c = val (os.take (at_ + i)) + W64 ^ at_ * val (xs.take i))) (fun _ t11 _ => l2 - (intOf t11).toNat)
  case atStart => exact ⟨0, 0, os, by omega, by omega, rfl, rfl, Lib.hid HLO.out.symm, Lib.hid hrow0, Lib.hid (Grew.refl _ _), Lib.hid rfl, Lib.hid (by simp)⟩
  case round =>
    obtain ⟨i, c, os1, hi, hc, rfl, rfl, HO, HROW, HGR, HD, HV⟩ := hrel
    by_cases hlt : i < l2
    · obtain ⟨ad, rfl, hb2, hcell⟩ := h2.at_ (k := i) (by rw [← HL2.out]; exact hlt)
      have hnb := hne (by rw [← HL2.out]; omega) ad rfl
      have hbk := block_of_add ad i
      have hcell2 : wr.cell? (ad.add i) = some (.int .u64 ((xs.getD i 0 : Nat) : Int)) := by
        rw [cell_of_block (w := w)]
        · exact hcell
        · rw [hbk]; exact HGR.out.1.block _ hb2 (by intro e; injection e with e; exact hnb e)
      obtain ⟨y, hy⟩ : ∃ y, xs.getD i 0 = y := ⟨_, rfl⟩
      obtain ⟨u, hu⟩ : ∃ u, os1.getD (at_ + i) 0 = u := ⟨_, rfl⟩
      have hyW : y < W64 := hy ▸ h2.small.getD i
      have huW : u < W64 := hu ▸ HROW.out.small.getD (at_ + i)
      rw [hy] at hcell2
      have hcg := HROW.out.cell (k := at_ + i) (by rw [HO.out]; omega)
      rw [hu] at hcg
      have hfg := HROW.out.free (at_ + i)
      have HSTEP := Lib.hid (show val ((os1.set (at_ + i) (addLo u y c)).take (at_ + (i + 1))) + W64 ^ (at_ + (i + 1)) * addHi u y c = val (os.take (at_ + (i + 1))) + W64 ^ at_ * val (xs.take (i + 1)) by
        have hV := HV.out
        have hu2 : os.getD (at_ + i) 0 = u := by rw [← hu]; exact (getD_of_drop HD.out).symm
        rw [← Nat.add_assoc, val_take_set os1 _ _ (by rw [HO.out]; omega), val_take_step os, val_take_step xs, hy, hu2, Nat.pow_succ]
        exact put_step hV (add_split u y c) (Nat.pow_add _ _ _))
      have hc1 := addHi_le huW hyW hc
      have HSET := Lib.hid (HROW.out.set (k := at_ + i) (x := addLo u y c) (by rw [HO.out]; omega) (addLo_lt _ _ _))
      have HGR2 := Lib.hid (HGR.out.set (at_ + i) (.int .u64 (addLo u y c : Nat)))
      have HO2 := Lib.hid (show (os1.set (at_ + i) (addLo u y c)).length = lo by rw [List.length_set, HO.out])
      have HD2 := Lib.hid (show (os1.set (at_ + i) (addLo u y c)).drop (at_ + (i + 1)) = os.drop (at_ + (i + 1)) by
        rw [List.drop_set_of_lt (by omega), ← Nat.add_assoc]; exact drop_more HD.out 1)
      have ha := add64_run u y c hc
      have r1 := hcell2
      have hiI : (i : Int) < (l2 : Int) := by omega
      have HU := Lib.hid (And.intro hu hy)
      clear hu hy hb2 hbk hnb hcell
      go_wp2_with fail
      have HGN := Lib.hid (fun m => (HGR.out.drewN m).set (at_ + i) (.int .u64 (addLo u y c : Nat)))
      have HSN := Lib.hid (fun m => show Row ((wr.drewN m).setCell ⟨g, at_ + i, none⟩ (.int .u64 (addLo u y c : Nat))) g (os1.set (at_ + i) (addLo u y c)) from (HROW.out.drewN m).set (by rw [HO.out]; omega) (addLo_lt _ _ _))
      obtain ⟨m, hm⟩ : ∃ m, at_ + i = m := ⟨_, rfl⟩
      obtain ⟨h0m, h9m, hsl, hto⟩ := sum_small hat hlt hl
      obtain ⟨hw1, hw2⟩ := wraps_small h0m h9m
      have HIL := Lib.hid hlt
      rw [hm] at hto
      rw [hm] at hcg hfg HSN HGN HO2 HD2 HSTEP
      clear r1 HSET HGR2 HROW HGR HD HV HO
      subst hm
      clear h9m hat hl
      go_region_with (fail)
      all_goals
        clear hw1 hw2 hto h0m hsl ha hcg hfg
        go_wp2_with fail
        exact ⟨⟨i + 1, _, _, HIL.out, hc1, rfl, by go_num, HO2, Lib.hid (HSN.out _), Lib.hid (HGN.out _), HD2, HSTEP⟩, by have := HIL.out; simp [intOf]; omega⟩
    · obtain rfl : i = l2 := by omega
      have hiI : ¬ ((i : Int) < (i : Int)) := by omega
      go_wp2_with fail
      clear hi
      obtain ⟨wo, hwo⟩ : ∃ wo : World, wo = wr := ⟨_, rfl⟩
      subst hwo
      have hxs : xs.take i = xs := List.take_of_length_le (by rw [← HL2.out]; exact Nat.le_refl _)
      rw [hxs] at HV
      clear hxs
      go_loopw [6, 8] (fun t6 t8 wr => ∃ (j c : Nat) (os1 : List Nat), j ≤ lo ∧ c ≤ 1 ∧ t6 = .int .u64 (c : Int) ∧ t8 = .int .i64 (j : Int) ∧ Hid (os1.length = lo) ∧ Hid (Row wr g os1) ∧ Hid (Grew w wr g) ∧ Hid (os1.drop j = os.drop j) ∧ Hid (val (os1.take j) + W64 ^ j * c = val (os.take j) + W64 ^ at_ * val xs)) (fun _ t8 _ => lo - (intOf t8).toNat)
      case atStart => exact ⟨at_ + i, c, os1, by omega, hc, rfl, by go_num, HO, HROW, HGR, HD, HV⟩
      case round =>
        clear HO HROW HGR HD HV hc
        obtain ⟨j, c, os1, hj, hc, rfl, rfl, HO, HROW, HGR, HD, HV⟩ := hrel
        rcases Nat.eq_zero_or_pos c with hc0 | hc0
        · subst hc0
          have HFIN := Lib.hid (show val os1 = val os + W64 ^ at_ * val xs by
            have h1 := val_split os1 j (by rw [HO.out]; exact hj)
            have h2 := val_split os j (by rw [← HLO.out]; exact hj)
            have h3 := HV.out
            rw [HD.out] at h1
            rw [Nat.mul_zero, Nat.add_zero] at h3
            omega)
          go_wp2_with fail
          go_end0
          exact ⟨_, os1, rfl, HROW.out, HO.out, HFIN.out, HGR.out⟩
        · obtain rfl : c = 1 := by omega
          have hjl : j < lo := by
            rcases Nat.lt_or_ge j lo with h | h
            · exact h
            · exfalso
              obtain rfl : j = lo := by omega
              have h1 := HV.out
              rw [List.take_of_length_le (l := os1) (by rw [HO.out]; exact Nat.le_refl _), List.take_of_length_le (l := os) (by rw [← HLO.out]; exact Nat.le_refl _)] at h1
              have := HF.out
              omega
          obtain ⟨u, hu⟩ : ∃ u, os1.getD j 0 = u := ⟨_, rfl⟩
          have huW : u < W64 := hu ▸ HROW.out.small.getD j
          have hcg := HROW.out.cell (k := j) (by rw [HO.out]; omega)
          rw [hu] at hcg
          have hfg := HROW.out.free j
          have HSTEP := Lib.hid (show val ((os1.set j (addLo u 0 1)).take (j + 1)) + W64 ^ (j + 1) * addHi u 0 1 = val (os.take (j + 1)) + W64 ^ at_ * val xs by
            have hV := HV.out
            have hu2 : os.getD j 0 = u := by rw [← hu]; exact (getD_of_drop HD.out).symm
            rw [val_take_set os1 _ _ (by rw [HO.out]; omega), val_take_step os, hu2, Nat.pow_succ]
            have h5 : W64 ^ j * (addLo u 0 1 + W64 * addHi u 0 1) = W64 ^ j * (u + 0 + 1) := by rw [add_split]
            rw [Nat.mul_add, Nat.mul_add, Nat.add_zero, Nat.mul_one, ← Nat.mul_assoc] at h5
            rw [Nat.mul_one] at hV
            omega)
          have hc1 := addHi_le huW W64_pos (Nat.le_refl 1)
          have HSET := Lib.hid (HROW.out.set (k := j) (x := addLo u 0 1) (by rw [HO.out]; omega) (addLo_lt _ _ _))
          have HGR2 := Lib.hid (HGR.out.set (j) (.int .u64 (addLo u 0 1 : Nat)))
          have HO2 := Lib.hid (show (os1.set j (addLo u 0 1)).length = lo by rw [List.length_set, HO.out])
          have HD2 := Lib.hid (show (os1.set j (addLo u 0 1)).drop (j + 1) = os.drop (j + 1) by
            rw [List.drop_set_of_lt (by omega)]; exact drop_more HD.out 1)
          have ha := add64_run u 0 1 (Nat.le_refl 1)
          rw [Int.natCast_zero, Int.natCast_one] at ha
          have hjI : (j : Int) < (lo : Int) := by omega
          have HU := Lib.hid hu
          clear hu
          go_wp2_with fail
          exact ⟨⟨j + 1, _, _, by omega, hc1, rfl, by go_num, HO2, HSET, HGR2, HD2, HSTEP⟩, by simp [intOf]; omega⟩
end Go.Proofs.YtjbagikfogejnaaGreatDoor
/- The package times: take, sum. -/
namespace Go.Proofs.YtjbagikfogejnaaGreatDoor
open Go.RowKit Go.Deep
theorem borrow_step {a1 a2 a3 P d b u b' y W : Nat} (h : a1 + a3 = a2 + P * b) (hs : d + y + b = u + W * b') : a1 + P * d + (a3 + P * y) = a2 + P * u + P * W * b' := by
  have h5 : P * (d + y + b) = P * (u + W * b') := by rw [hs]
  grind
set_option maxHeartbeats 4000000 in
set_option maxRecDepth 100000 in
theorem times_take (g lo co : Nat) (os : List Nat) (A2 : Option Addr) (l2 c2 : Nat) (xs : List Nat) (w : World) (hrow0 : Row w g os) (h2 : Lim w w.heap.size A2 xs) (hne : 0 < xs.length → ∀ ad, A2 = some ad → ad.block ≠ g) (elo : lo = os.length) (el2 : l2 = xs.length) (hat : l2 ≤ lo) (hfit : val xs ≤ val os) (hl : lo ≤ 1099511627776) :
    Calls Tryz.prog 174 #[.slice (some ⟨g, 0, none⟩) lo co, .slice A2 l2 c2] w fun e w' => ∃ v os', e = .returned v ∧ Row w' g os' ∧ os'.length = lo ∧ val os' + val xs = val os ∧ Grew w w' g := by
  have HF := Lib.hid hfit
  have HLO := Lib.hid elo
  have HL2 := Lib.hid el2
  have hloI : (lo : Int) ≤ 1099511627776 := by omega
  have hatI : (l2 : Int) ≤ (lo : Int) := by omega
  have HAT := Lib.hid hat
  clear hfit elo el2 hat hl
  go_enter Tryz.func174, Tryz.ntmps174
  go_wp2_with fail
  go_loopw [4, 9] (fun t4 t9 wr => ∃ (i c : Nat) (os1 : List Nat), i ≤ l2 ∧ c ≤ 1 ∧ t4 = .int .u64 (c : Int) ∧ t9 = .int .i64 (i : Int) ∧ Hid (os1.length = lo) ∧ Hid (Row wr g os1) ∧ Hid (Grew w wr g) ∧ Hid (os1.drop i = os.drop i) ∧ Hid (val (os1.take i) + val (xs.take i) = val (os.take i) + W64 ^ i * c)) (fun _ t9 _ => l2 - (intOf t9).toNat)
  case atStart => exact ⟨0, 0, os, by omega, by omega, rfl, rfl, Lib.hid HLO.out.symm, Lib.hid hrow0, Lib.hid (Grew.refl _ _), Lib.hid rfl, Lib.hid (by simp)⟩
  case round =>
    obtain ⟨i, c, os1, hi, hc, rfl, rfl, HO, HROW, HGR, HD, HV⟩ := hrel
    by_cases hlt : i < l2
    · have HLV := Lib.hid (h2.off HGR.out.1 hne)
      obtain ⟨ad, rfl, hb2, hcell⟩ := HLV.out.at_ (k := i) (by rw [← HL2.out]; exact hlt)
      obtain ⟨y, hy⟩ : ∃ y, xs.getD i 0 = y := ⟨_, rfl⟩
      obtain ⟨u, hu⟩ : ∃ u, os1.getD i 0 = u := ⟨_, rfl⟩
      have hyW : y < W64 := hy ▸ h2.small.getD i
      have huW : u < W64 := hu ▸ HROW.out.small.getD i
      rw [hy] at hcell
      have hcg := HROW.out.cell (k := i) (by rw [HO.out]; have := HAT.out; omega)
      rw [hu] at hcg
      have hfg := HROW.out.free i
      have HSTEP := Lib.hid (show val ((os1.set i (subLo u y c)).take (i + 1)) + val (xs.take (i + 1)) = val (os.take (i + 1)) + W64 ^ (i + 1) * subHi u y c by
        have hV := HV.out
        have hu2 : os.getD i 0 = u := by rw [← hu]; exact (getD_of_drop HD.out).symm
        rw [val_take_set os1 _ _ (by rw [HO.out]; have := HAT.out; omega), val_take_step os, val_take_step xs, hy, hu2, Nat.pow_succ]
        exact borrow_step hV (sub_split huW hyW hc))
      have hc1 := subHi_le u y c
      have HO2 := Lib.hid (show (os1.set i (subLo u y c)).length = lo by rw [List.length_set, HO.out])
      have HD2 := Lib.hid (show (os1.set i (subLo u y c)).drop (i + 1) = os.drop (i + 1) by
        rw [List.drop_set_of_lt (by omega)]; exact drop_more HD.out 1)
      have ha := sub64_run u y c hc
      have r1 := later_cell hcell
      have r2 := later_cell hcg
      have hiI : (i : Int) < (l2 : Int) := by omega
      have hiI2 : (i : Int) < (lo : Int) := by omega
      have HU := Lib.hid (And.intro hu hy)
      clear hu hy
      go_wp2_with fail
      have HGN := Lib.hid (fun m => (HGR.out.drewN m).set (i) (.int .u64 (subLo u y c : Nat)))
      have HSN := Lib.hid (fun m => show Row ((wr.drewN m).setCell ⟨g, i, none⟩ (.int .u64 (subLo u y c : Nat))) g (os1.set i (subLo u y c)) from (HROW.out.drewN m).set (by rw [HO.out]; omega) (subLo_lt _ _ _))
      go_region_with (fail)
      all_goals
        go_wp2_with fail
        exact ⟨⟨i + 1, _, _, by omega, hc1, rfl, by go_num, HO2, Lib.hid (HSN.out _), Lib.hid (HGN.out _), HD2, HSTEP⟩, by simp [intOf]; omega⟩
    · obtain rfl : i = l2 := by omega
      have hiI : ¬ ((i : Int) < (i : Int)) := by omega
      go_wp2_with fail
      clear hi
      obtain ⟨wo, hwo⟩ : ∃ wo : World, wo = wr := ⟨_, rfl⟩
      subst hwo
      have hxs : xs.take i = xs := List.take_of_length_le (by rw [← HL2.out]; exact Nat.le_refl _)
      rw [hxs] at HV
      clear hxs
      go_loopw [4, 6] (fun t6 t8 wr => ∃ (j c : Nat) (os1 : List Nat), j ≤ lo ∧ c ≤ 1 ∧ t6 = .int .u64 (c : Int) ∧ t8 = .int .i64 (j : Int) ∧ Hid (os1.length = lo) ∧ Hid (Row wr g os1) ∧ Hid (Grew w wr g) ∧ Hid (os1.drop j = os.drop j) ∧ Hid (val (os1.take j) + val xs = val (os.take j) + W64 ^ j * c)) (fun _ t8 _ => lo - (intOf t8).toNat)
      case atStart => exact ⟨i, c, os1, HAT.out, hc, rfl, rfl, HO, HROW, HGR, HD, HV⟩
      case round =>
        clear HO HROW HGR HD HV hc
        obtain ⟨j, c, os1, hj, hc, rfl, rfl, HO, HROW, HGR, HD, HV⟩ := hrel
        rcases Nat.eq_zero_or_pos c with hc0 | hc0
        · subst hc0
          have HFIN := Lib.hid (show val os1 + val xs = val os by
            have h1 := val_split os1 j (by rw [HO.out]; exact hj)
            have h2 := val_split os j (by rw [← HLO.out]; exact hj)
            have h3 := HV.out
            rw [HD.out] at h1
            rw [Nat.mul_zero, Nat.add_zero] at h3
            omega)
          go_wp2_with fail
          go_end0
          exact ⟨_, os1, rfl, HROW.out, HO.out, HFIN.out, HGR.out⟩
        · obtain rfl : c = 1 := by omega
          have hjl : j < lo := by
            rcases Nat.lt_or_ge j lo with h | h
            · exact h
            · exfalso
              obtain rfl : j = lo := by omega
              have h1 := HV.out
              rw [List.take_of_length_le (l := os1) (by rw [HO.out]; exact Nat.le_refl _), List.take_of_length_le (l := os) (by rw [← HLO.out]; exact Nat.le_refl _)] at h1
              have h3 := val_lt HROW.out.small
              rw [HO.out] at h3
              have := HF.out
              omega
          obtain ⟨u, hu⟩ : ∃ u, os1.getD j 0 = u := ⟨_, rfl⟩
          have huW : u < W64 := hu ▸ HROW.out.small.getD j
          have hcg := HROW.out.cell (k := j) (by rw [HO.out]; exact hjl)
          rw [hu] at hcg
          have hfg := HROW.out.free j
          have HSTEP := Lib.hid (show val ((os1.set j (subLo u 0 1)).take (j + 1)) + val xs = val (os.take (j + 1)) + W64 ^ (j + 1) * subHi u 0 1 by
            have hV := HV.out
            have hu2 : os.getD j 0 = u := by rw [← hu]; exact (getD_of_drop HD.out).symm
            rw [val_take_set os1 _ _ (by rw [HO.out]; exact hjl), val_take_step os, hu2, Nat.pow_succ]
            have h6 := borrow_step hV (sub_split huW W64_pos (Nat.le_refl 1))
            rwa [Nat.mul_zero, Nat.add_zero] at h6)
          have hc1 := subHi_le u 0 1
          have HSET := Lib.hid (HROW.out.set (k := j) (x := subLo u 0 1) (by rw [HO.out]; exact hjl) (subLo_lt _ _ _))
          have HGR2 := Lib.hid (HGR.out.set (j) (.int .u64 (subLo u 0 1 : Nat)))
          have HO2 := Lib.hid (show (os1.set j (subLo u 0 1)).length = lo by rw [List.length_set, HO.out])
          have HD2 := Lib.hid (show (os1.set j (subLo u 0 1)).drop (j + 1) = os.drop (j + 1) by
            rw [List.drop_set_of_lt (by omega)]; exact drop_more HD.out 1)
          have ha := sub64_run u 0 1 (Nat.le_refl 1)
          rw [Int.natCast_zero, Int.natCast_one] at ha
          have hjI : (j : Int) < (lo : Int) := by omega
          have HU := Lib.hid hu
          clear hu
          go_wp2_with fail
          exact ⟨⟨j + 1, _, _, by omega, hc1, rfl, by go_num, HO2, HSET, HGR2, HD2, HSTEP⟩, by simp [intOf]; omega⟩
theorem zeros_cells (n : Nat) : (madeCells #[.int .u64 0] n : Array Value) = (nums (List.replicate n 0)).toArray := by
  apply Array.ext'
  rw [toList_madeCells_one]
  simp [nums]
section
variable {ops : Array Oper} {rest : List Oper} {o : Oper} {a : Act} {Q : Exit → Act → World → Prop}
/-- copy(out, x): out is new, all noughts. -/
theorem copy_made {w0 W : World} {B0 B : Nat} (hgd : o.guard = none) (d s : Operand)
    (ho : o.op = .call { callee := .builtin .copy, args := #[d, s], argTypes := #[22, 22] })
    (g n c : Nat) (A : Option Addr) (l cs : Nat) (xs : List Nat) (hd : a.eval d = .slice (some ⟨g, 0, none⟩) n c) (hs : a.eval s = .slice A l cs)
    (hrow : W.heap[g]? = some (.cells (madeCells #[.int .u64 0] n) 41 (0, 0))) (hl : l = xs.length) (hle : l ≤ n) (hlim : Lim W B A xs) (hb : Below B0 w0 W) (hBg : B0 ≤ g)
    (h : ∀ w' u, Row w' g (xs ++ List.replicate (n - l) 0) → Fresh w' g (some ⟨g, 0, none⟩) n → Below B0 w0 w' → wpList Tryz.prog ops Q rest (a.put o.dst u) w') :
    wpList Tryz.prog ops Q (o :: rest) a W := by
  subst hl
  rw [zeros_cells] at hrow
  obtain ⟨i0, hi, hz0, hz1, hz2⟩ := info_parts info_u64
  refine wpList_copy_splice hgd d s 22 22 ho 41 Tryz.underlying22 (by rw [hi]; simp [hz1]) _ A n c xs.length cs hd hs g 0 (nums (List.replicate n 0)) 41 hrow (nums xs) (by rw [nums_length]; exact (Nat.min_eq_left hle).symm) (fun hp => ?_) (by rw [nums_length, nums_length]; simp; omega) (fun v hv => ?_) B0 w0 hb hBg fun w' hw hb' => ?_
  · rw [nums_length] at hp
    obtain ⟨ad, ha, _, hc⟩ := hlim.cells hp
    refine ⟨rfl, ad, ha, fun j v hj => ?_⟩
    have hjl : j < xs.length := by have := (List.getElem?_eq_some_iff.1 hj).1; simpa [nums] using this
    rw [hc j hjl, ← hj]
    simp [nums, hjl]
  · obtain ⟨y, _, rfl⟩ := List.mem_map.1 hv
    rfl
  · have hw := hw.out
    have e : splice (nums (List.replicate n 0)) 0 (nums xs) = nums (xs ++ List.replicate (n - xs.length) 0) := by
      simp [splice, nums, List.drop_replicate]
    rw [e] at hw
    refine h w' _ ⟨hlim.small.append (Small.zeros _), _, _, hw, by simp [nums], fun i hi => ?_⟩ (.inr ⟨g, _, rfl, Nat.le_refl _, hw, by simp [nums]; omega⟩) hb'
    rw [List.getElem?_toArray]
    simp only [nums, List.getElem?_map, List.getD_eq_getElem?_getD]
    rw [List.getElem?_eq_getElem hi]
    rfl
end
theorem sum_fits {xs ys : List Nat} (hx : Small xs) (hy : Small ys) {m : Nat} (h1 : xs.length ≤ m) (h2 : ys.length ≤ m) : val xs + val ys < W64 ^ (m + 1) := by
  have a := val_lt hx
  have b := val_lt hy
  have c : W64 ^ xs.length ≤ W64 ^ m := Nat.pow_le_pow_right W64_pos h1
  have d : W64 ^ ys.length ≤ W64 ^ m := Nat.pow_le_pow_right W64_pos h2
  have e : 2 * W64 ^ m ≤ W64 ^ (m + 1) := by
    rw [Nat.pow_succ, Nat.mul_comm 2]
    exact Nat.mul_le_mul_left _ (by rw [W64_eq]; omega)
  omega
theorem Lim.far {w : World} {B g : Nat} {A : Option Addr} {xs : List Nat} (h : Lim w B A xs) (hg : B ≤ g) (hn : 0 < xs.length) (ad : Addr) (e : A = some ad) : ad.block ≠ g := by
  obtain ⟨a, ha, hb, _⟩ := h.cells hn
  rw [ha] at e
  injection e with e
  subst e
  omega
set_option maxHeartbeats 1000000 in
set_option maxRecDepth 100000 in
theorem times_sum (A1 A2 : Option Addr) (l1 l2 c1 c2 : Nat) (xs ys : List Nat) (w : World) (h1 : Lim w w.heap.size A1 xs) (h2 : Lim w w.heap.size A2 ys) (e1 : l1 = xs.length) (e2 : l2 = ys.length) (hl1 : l1 ≤ 274877906944) (hl2 : l2 ≤ 274877906944) :
    Calls Tryz.prog 173 #[.slice A1 l1 c1, .slice A2 l2 c2] w fun e w' => ∃ A c, e = .returned (.slice A (limbs (val xs + val ys)).length c) ∧ (limbs (val xs + val ys)).length ≤ c ∧ Lim w' w'.heap.size A (limbs (val xs + val ys)) ∧ Fresh w' w.heap.size A c ∧ Below w.heap.size w w' := by
  obtain ⟨m, hm⟩ : ∃ m, max l1 l2 = m := ⟨_, rfl⟩
  have hmI : max (l1 : Int) (l2 : Int) = (m : Int) := by omega
  have hmk := make_limbs_succ m (by omega)
  have mI : (m : Int) ≤ 274877906944 := by omega
  have HM := Lib.hid (show l1 ≤ m ∧ l2 ≤ m ∧ m ≤ 274877906944 by omega)
  have H1 := Lib.hid h1
  have H2 := Lib.hid h2
  have E1 := Lib.hid e1
  have E2 := Lib.hid e2
  clear h1 h2 e1 e2 hl1 hl2 hm
  go_enter Tryz.func173, Tryz.ntmps173
  go_upto_region 2 with (fail)
  obtain ⟨W0, g, hW0, hg⟩ : ∃ W g, w.alloc (.cells (madeCells #[.int .u64 0] (m + 1)) 41) = W ∧ w.heap.size = g := ⟨_, _, rfl, rfl⟩
  have hb0 : Below w.heap.size w W0 := by rw [← hW0]; exact (Below.refl _ _).alloc (Nat.le_refl _) _
  have HROW := Lib.hid (show W0.heap[g]? = some (.cells (madeCells #[.int .u64 0] (m + 1)) 41 (0, 0)) by rw [← hW0, ← hg]; exact heap_alloc_new w _)
  have HG := Lib.hid (show w.heap.size ≤ g by omega)
  have HB := Lib.hid hb0
  rw [hW0, hg]
  clear hW0 hg hb0 hmk hmI
  go_wp2_with (refine copy_made (w0 := w) (B0 := w.heap.size) rfl (.tmp 13) (.tmp 14) rfl g (m + 1) (m + 1) A1 l1 c1 xs (by rfl) (by rfl) HROW.out E1.out (by have := HM.out; omega) (H1.out.below HB.out) HB.out HG.out fun w1 u1 hr hf hb => ?_)
  have HR := Lib.hid hr
  have HFR := Lib.hid hf
  replace HB := Lib.hid hb
  clear hr hf hb
  go_wp2_with fail
  have HLEN := Lib.hid (show m + 1 = (xs ++ List.replicate (m + 1 - l1) 0).length by rw [List.length_append, List.length_replicate, ← E1.out]; have := HM.out; omega)
  have HV := Lib.hid (show val (xs ++ List.replicate (m + 1 - l1) 0) = val xs by rw [val_append, val_zeros, Nat.mul_zero, Nat.add_zero])
  have C := times_put g (m + 1) (m + 1) 0 _ A2 l2 c2 ys w1 HR.out ((H2.out.below HB.out).more HB.out.size) (H2.out.far HG.out) HLEN.out E2.out (by have := HM.out; omega) (by
    rw [HV.out, Nat.pow_zero, Nat.one_mul]
    exact sum_fits H1.out.small H2.out.small (by rw [← E1.out]; exact HM.out.1) (by rw [← E2.out]; exact HM.out.2.1)) (by have := HM.out; omega)
  rw [Int.natCast_zero] at C
  refine C.mono ?_
  rintro e w2 ⟨v, os, rfl, hrow, hlen, hval, hgr⟩
  rw [HV.out, Nat.pow_zero, Nat.one_mul] at hval
  have HR2 := Lib.hid hrow
  have HL2 := Lib.hid hlen
  have HV2 := Lib.hid hval
  have HB2 := Lib.hid (below_grown HB.out HB.out.size hgr.1 HG.out)
  have HF2 := Lib.hid (show Fresh w2 g (some ⟨g, 0, none⟩) (m + 1) from hgr.2 _ _ HFR.out)
  clear C hrow hlen hval hgr
  go_wp2_with fail
  have T := times_trim (some ⟨g, 0, none⟩) (m + 1) os w2 HR2.out.lim' (by rw [HL2.out]; exact Nat.le_refl _) (by rw [HL2.out]; have := HM.out; omega)
  rw [HL2.out, HV2.out] at T
  refine T.mono ?_
  rintro e w3 ⟨rfl, rfl⟩
  clear T
  go_wp2_with fail
  go_ret
  have hl3 := limbs_val_le HR2.out.small
  have ht := HR2.out.lim'.trim
  rw [HV2.out] at hl3 ht
  exact ⟨_, _, rfl, by rw [← HL2.out]; exact hl3, ht, HF2.out.since HG.out, HB2.out⟩
end Go.Proofs.YtjbagikfogejnaaGreatDoor
/- The package times: halves, deep, of any length. -/
namespace Go.Proofs.YtjbagikfogejnaaGreatDoor
open Go.RowKit Go.Deep
/-- What a product by halves tells. -/
def ProdPost (w : World) (e : Ending) (w' : World) (n : Nat) : Prop := ∃ A c, e = .returned (.slice A (limbs n).length c) ∧ (limbs n).length ≤ c ∧ Lim w' w'.heap.size A (limbs n) ∧ Fresh w' w.heap.size A c ∧ Below w.heap.size w w'
def wayF (d g : Nat) : Value := .func (.func 135) #[] #[.pointer (some ⟨d, 0, none⟩), .pointer (some ⟨g, 0, none⟩)]
/-- The closure's cells. -/
structure WayC (w : World) (d g : Nat) : Prop where
  cd : w.cell? ⟨d, 0, none⟩ = some (.int .i64 24)
  cg : w.cell? ⟨g, 0, none⟩ = some (wayF d g)
theorem WayC.stay {w w' : World} {d g : Nat} (h : WayC w d g) (hb : Below w.heap.size w w') : WayC w' d g :=
  ⟨by rw [hb.cell (World.block_lt_of_cell? w _ h.cd)]; exact h.cd, by rw [hb.cell (World.block_lt_of_cell? w _ h.cg)]; exact h.cg⟩
/-- The way serves numbers of so many limbs. -/
def Way (m d g : Nat) : Prop := ∀ (A1 A2 : Option Addr) (l1 l2 c1 c2 : Nat) (xs ys : List Nat) (W : World), Lim W W.heap.size A1 xs → Lim W W.heap.size A2 ys → l1 = xs.length → l2 = ys.length → l1 ≤ c1 → l2 ≤ c2 → l1 ≤ m → l2 ≤ m → WayC W d g →
  Calls Tryz.prog 135 #[.slice A1 l1 c1, .slice A2 l2 c2, .pointer (some ⟨d, 0, none⟩), .pointer (some ⟨g, 0, none⟩)] W fun e w' => ProdPost W e w' (val xs * val ys)
theorem split_half {xs : List Nat} {n p : Nat} (hp : p = min n xs.length) : val xs = val (xs.take p) + W64 ^ n * val (xs.drop p) := by
  have h := val_split xs p (by omega)
  rcases Nat.lt_or_ge xs.length n with h1 | h1
  · have e : p = xs.length := by omega
    subst e
    rw [List.drop_length, val_nil, Nat.mul_zero] at *
    rw [List.take_length]; rfl
  · have e : p = n := by omega
    rw [e] at h ⊢
    exact h
theorem Fresh.ne {w : World} {base g c : Nat} {A : Option Addr} (h : Fresh w base A c) (hg : g < base) {ad : Addr} (e : A = some ad) : ad.block ≠ g := by
  rcases h with ⟨h1, _⟩ | ⟨k, cs, h1, h2, _, _⟩
  · rw [h1] at e; cases e
  · rw [h1] at e
    injection e with e
    subst e
    show k ≠ g
    omega
theorem Lim.below' {w w' : World} {B : Nat} {A : Option Addr} {xs : List Nat} (h : Lim w B A xs) (hb : Below B w w') : Lim w' B A xs := h.below hb
theorem kar_nums {a b c f n : Nat} (_h : b < W64 ^ n ∧ f < W64 ^ n ∧ a < W64 ^ n ∧ c < W64 ^ n) : a * c ≤ (a + b) * (c + f) ∧ b * f + a * c ≤ (a + b) * (c + f) := by
  have e : (a + b) * (c + f) = a * c + a * f + b * c + b * f := by grind
  rw [e]
  omega
theorem kar_prod {a b c f n M : Nat} (h : b < W64 ^ n ∧ f < W64 ^ n ∧ a < W64 ^ n ∧ c < W64 ^ n) (hM : M + b * f + a * c = (a + b) * (c + f)) :
    a * c + W64 ^ n * M + W64 ^ (2 * n) * (b * f) = (a + W64 ^ n * b) * (c + W64 ^ n * f) ∧ a * c + W64 ^ n * M + W64 ^ (2 * n) * (b * f) < W64 ^ (4 * n + 4) := by
  have e : M = a * f + b * c := by
    have e2 : (a + b) * (c + f) = a * c + a * f + b * c + b * f := by grind
    omega
  have e3 : a * c + W64 ^ n * M + W64 ^ (2 * n) * (b * f) = (a + W64 ^ n * b) * (c + W64 ^ n * f) := by
    rw [e, show 2 * n = n + n by omega, Nat.pow_add]
    generalize W64 ^ n = P
    grind
  refine ⟨e3, ?_⟩
  rw [e3]
  have k1 : a + W64 ^ n * b < W64 ^ n * W64 ^ n := by
    have := Nat.mul_le_mul_left (W64 ^ n) (show b + 1 ≤ W64 ^ n from h.1)
    rw [Nat.mul_add, Nat.mul_one] at this
    omega
  have k2 : c + W64 ^ n * f < W64 ^ n * W64 ^ n := by
    have := Nat.mul_le_mul_left (W64 ^ n) (show f + 1 ≤ W64 ^ n from h.2.1)
    rw [Nat.mul_add, Nat.mul_one] at this
    omega
  have k3 := Nat.mul_lt_mul_of_lt_of_lt k1 k2
  refine Nat.lt_of_lt_of_le k3 ?_
  rw [← Nat.pow_add, ← Nat.pow_add]
  exact Nat.pow_le_pow_right W64_pos (by omega)
/-- How long the products are. -/
theorem kar_sizes {a b c f n : Nat} (h : b < W64 ^ n ∧ f < W64 ^ n ∧ a < W64 ^ n ∧ c < W64 ^ n) : lc (a * c) ≤ 2 * n ∧ lc (b * f) ≤ 2 * n ∧ lc (a + b) ≤ n + 1 ∧ lc (c + f) ≤ n + 1 ∧ lc ((a + b) * (c + f)) ≤ 2 * n + 2 := by
  have h1 := lc_le.2 h.2.2.1
  have h2 := lc_le.2 h.2.2.2
  have h3 := lc_le.2 h.1
  have h4 := lc_le.2 h.2.1
  have m1 := lc_mul a c
  have m2 := lc_mul b f
  have s1 := lc_add a b
  have s2 := lc_add c f
  have m3 := lc_mul (a + b) (c + f)
  omega
set_option maxHeartbeats 4000000 in
set_option maxRecDepth 100000 in
theorem times_halves (m d g : Nat) (IH : Way m d g) (A1 A2 : Option Addr) (l1 l2 c1 c2 : Nat) (xs ys : List Nat) (w : World) (h1 : Lim w w.heap.size A1 xs) (h2 : Lim w w.heap.size A2 ys) (e1 : l1 = xs.length) (e2 : l2 = ys.length) (hc1 : l1 ≤ c1) (hc2 : l2 ≤ c2) (p1 : 0 < l1) (p2 : 0 < l2) (hm : (max l1 l2 + 1) / 2 + 1 ≤ m) (hl1 : l1 ≤ 17179869184) (hl2 : l2 ≤ 17179869184) (hw : WayC w d g) :
    Calls Tryz.prog 137 #[.slice A1 l1 c1, .slice A2 l2 c2, wayF d g] w fun e w' => ProdPost w e w' (val xs * val ys) := by
  obtain ⟨m0, hm0⟩ : ∃ m0, max l1 l2 = m0 := ⟨_, rfl⟩
  obtain ⟨n, hn⟩ : ∃ n, (m0 + 1) / 2 = n := ⟨_, rfl⟩
  have hmI : max (l1 : Int) (l2 : Int) = (m0 : Int) := by omega
  have hnI : ((m0 : Int) + 1) / 2 = (n : Int) := by omega
  obtain ⟨p, hp⟩ : ∃ p, min n l1 = p := ⟨_, rfl⟩
  obtain ⟨q, hq⟩ : ∃ q, min n l2 = q := ⟨_, rfl⟩
  have hpI : min (n : Int) (l1 : Int) = (p : Int) := by omega
  have hqI : min (n : Int) (l2 : Int) = (q : Int) := by omega
  have m0I : (m0 : Int) ≤ 17179869184 := by omega
  have nI : (n : Int) ≤ 17179869184 := by omega
  have HN := Lib.hid (show n + 1 ≤ m ∧ l1 ≤ 2 * n ∧ l2 ≤ 2 * n ∧ p ≤ n ∧ q ≤ n ∧ l1 - p ≤ n ∧ l2 - q ≤ n ∧ p ≤ l1 ∧ q ≤ l2 ∧ n ≤ 17179869184 by rw [hm0, hn] at hm; omega)
  have HX := Lib.hid (split_half (xs := xs) (n := n) (p := p) (by rw [← hp, e1]))
  have HY := Lib.hid (split_half (xs := ys) (n := n) (p := q) (by rw [← hq, e2]))
  obtain ⟨ad1, rfl, _, _⟩ := h1.at_ (k := 0) (by omega)
  obtain ⟨ad2, rfl, _, _⟩ := h2.at_ (k := 0) (by omega)
  have H1 := Lib.hid h1
  have H2 := Lib.hid h2
  have E1 := Lib.hid e1
  have E2 := Lib.hid e2
  have HC := Lib.hid (And.intro hc1 hc2)
  have HW := Lib.hid hw
  have HIH := Lib.hid IH
  have hpN : min n l1 = p := hp
  have hqN : min n l2 = q := hq
  have pI : (p : Int) ≤ (c1 : Int) := by omega
  have qI : (q : Int) ≤ (c2 : Int) := by omega
  have pJ : (p : Int) ≤ (l1 : Int) := by omega
  have qJ : (q : Int) ≤ (l2 : Int) := by omega
  clear h1 h2 e1 e2 hc1 hc2 p1 p2 hm hl1 hl2 hw hm0 hn hp hq IH
  unfold wayF
  go_enter Tryz.func137, Tryz.ntmps137
  go_upto_region 2 with (fail)
  rw [hnI]
  clear hmI hnI
  go_cut [8, 9] (fun t8 t9 wx => ∃ (AX : Option Addr) (cX : Nat), t8 = .slice (some ad1) (limbs (val (xs.take p))).length c1 ∧ t9 = .slice AX (l1 - p) cX ∧ Hid (l1 - p ≤ cX) ∧ Hid (Lim wx wx.heap.size AX (xs.drop p)) ∧ Hid (Since w wx))
  case first =>
    by_cases hcp : c1 = p
    · have hle : l1 = c1 := by have := HN.out; have := HC.out; omega
      subst hcp
      have HLL := Lib.hid (show (xs).drop c1 = [] by rw [List.drop_of_length_le (by rw [← E1.out]; omega)])
      have HTR := Lib.hid (fun W (h : Lim W (w).heap.size (some ad1) ((xs).take c1)) => times_trim (some ad1) c1 ((xs).take c1) W h (by rw [List.length_take]; omega) (by rw [List.length_take]; have := HN.out; have := E1.out; omega))
      have hlt : ((xs).take c1).length = c1 := by rw [List.length_take, ← E1.out]; omega
      rw [hlt] at HTR
      clear hlt hle
      refine wp_region_stages (fun w' => ∃ k, w' = (w).drewN k) [(false, 0), (false, 1), (false, 2), (false, 3), (false, 4), (false, 5), (false, 7), (false, 8), (false, 9), (false, 10), (false, 11), (false, 12), (true, 6), (false, 13), (false, 14)] 15 [.reads [_, _, _, _, _, _, _, _, _, _, _, _], .loud _, .reads [_, _]] [] (by kernel_rfl) (by kernel_rfl) rfl rfl ?_ ?_
      · exact ⟨1, rfl⟩
      refine wpStages_reads ?_
      repeat (go_big_quiet_step (fail))
      refine wpQuiet_nil ?_
      refine wpStages_loud rfl ?_
      intro K hK
      go_big_op
      refine (HTR.out _ ((H1.out.take c1).drewN 1)).mono ?_
      rintro e w1 ⟨rfl, rfl⟩
      refine hK _ _ ⟨1, rfl⟩ ?_
      clear hK K
      refine wpStages_reads ?_
      repeat (go_big_quiet_step (fail))
      refine wpQuiet_nil ?_
      refine wpStages_nil ?_
      go_wp2_with fail
      go_meet
      exact ⟨some ad1, 0, rfl, rfl, Lib.hid (by have := HN.out; have := HC.out; omega), Lib.hid (by rw [HLL.out]; exact Lim.nil _ _ _), Lib.hid (below_drewN (Below.refl _ _) 1)⟩
    · have HCP := Lib.hid hcp
      have HTR := Lib.hid (fun W (h : Lim W (w).heap.size (some ad1) ((xs).take p)) => times_trim (some ad1) c1 ((xs).take p) W h (by rw [List.length_take]; have := HN.out; have := HC.out; omega) (by rw [List.length_take]; have := HN.out; have := E1.out; omega))
      have hlt : ((xs).take p).length = p := by rw [List.length_take, ← E1.out]; have := HN.out; omega
      rw [hlt] at HTR
      clear hlt
      refine wp_region_stages (fun w' => ∃ k, w' = (w).drewN k) [(false, 0), (false, 1), (false, 2), (false, 3), (false, 4), (false, 5), (false, 7), (false, 8), (false, 9), (false, 10), (false, 11), (false, 12), (true, 6), (false, 13), (false, 14)] 15 [.reads [_, _, _, _, _, _, _, _, _, _, _, _], .loud _, .reads [_, _]] [] (by kernel_rfl) (by kernel_rfl) rfl rfl ?_ ?_
      · exact ⟨1, rfl⟩
      refine wpStages_reads ?_
      repeat (go_big_quiet_step (fail))
      refine wpQuiet_nil ?_
      refine wpStages_loud rfl ?_
      intro K hK
      go_big_op
      refine (HTR.out _ ((H1.out.take p).drewN 1)).mono ?_
      rintro e w1 ⟨rfl, rfl⟩
      refine hK _ _ ⟨1, rfl⟩ ?_
      clear hK K
      refine wpStages_reads ?_
      repeat (go_big_quiet_step (fail))
      refine wpQuiet_nil ?_
      refine wpStages_nil ?_
      go_wp2_with fail
      go_meet
      have hcut := H1.out.cut (k := p) (cap := c1) (by rw [← E1.out]; have := HC.out; omega)
      rw [if_neg HCP.out] at hcut
      exact ⟨some ((ad1).add p), c1 - p, rfl, rfl, Lib.hid (by have := HN.out; have := HC.out; omega), Lib.hid (hcut.drewN 1), Lib.hid (below_drewN (Below.refl _ _) 1)⟩
  case rest =>
    clear hpI hpN pI pJ
    obtain ⟨AX, cX, rfl, rfl, HCX, HX1, HB⟩ := hcut
    have HX0 := Lib.hid (H1.out.stay HB.out)
    replace H2 := Lib.hid (H2.out.stay HB.out)
    replace HW := Lib.hid (HW.out.stay HB.out)
    go_upto_region 3 with (fail)
    go_cut [10, 11] (fun t8 t9 wx => ∃ (AY : Option Addr) (cY : Nat), t8 = .slice (some ad2) (limbs (val (ys.take q))).length c2 ∧ t9 = .slice AY (l2 - q) cY ∧ Hid (l2 - q ≤ cY) ∧ Hid (Lim wx wx.heap.size AY (ys.drop q)) ∧ Hid (Since wc wx))
    case first =>
      by_cases hcp : c2 = q
      · have hle : l2 = c2 := by have := HN.out; have := HC.out; omega
        subst hcp
        have HLL := Lib.hid (show (ys).drop c2 = [] by rw [List.drop_of_length_le (by rw [← E2.out]; omega)])
        have HTR := Lib.hid (fun W (h : Lim W (wc).heap.size (some ad2) ((ys).take c2)) => times_trim (some ad2) c2 ((ys).take c2) W h (by rw [List.length_take]; omega) (by rw [List.length_take]; have := HN.out; have := E2.out; omega))
        have hlt : ((ys).take c2).length = c2 := by rw [List.length_take, ← E2.out]; omega
        rw [hlt] at HTR
        clear hlt hle
        refine wp_region_stages (fun w' => ∃ k, w' = (wc).drewN k) [(false, 0), (false, 1), (false, 2), (false, 3), (false, 4), (false, 5), (false, 7), (false, 8), (false, 9), (false, 10), (false, 11), (false, 12), (true, 6), (false, 13), (false, 14)] 15 [.reads [_, _, _, _, _, _, _, _, _, _, _, _], .loud _, .reads [_, _]] [] (by kernel_rfl) (by kernel_rfl) rfl rfl ?_ ?_
        · exact ⟨1, rfl⟩
        refine wpStages_reads ?_
        repeat (go_big_quiet_step (fail))
        refine wpQuiet_nil ?_
        refine wpStages_loud rfl ?_
        intro K hK
        go_big_op
        refine (HTR.out _ ((H2.out.take c2).drewN 1)).mono ?_
        rintro e w1 ⟨rfl, rfl⟩
        refine hK _ _ ⟨1, rfl⟩ ?_
        clear hK K
        refine wpStages_reads ?_
        repeat (go_big_quiet_step (fail))
        refine wpQuiet_nil ?_
        refine wpStages_nil ?_
        go_wp2_with fail
        go_meet
        exact ⟨some ad2, 0, rfl, rfl, Lib.hid (by have := HN.out; have := HC.out; omega), Lib.hid (by rw [HLL.out]; exact Lim.nil _ _ _), Lib.hid (below_drewN (Below.refl _ _) 1)⟩
      · have HCP := Lib.hid hcp
        have HTR := Lib.hid (fun W (h : Lim W (wc).heap.size (some ad2) ((ys).take q)) => times_trim (some ad2) c2 ((ys).take q) W h (by rw [List.length_take]; have := HN.out; have := HC.out; omega) (by rw [List.length_take]; have := HN.out; have := E2.out; omega))
        have hlt : ((ys).take q).length = q := by rw [List.length_take, ← E2.out]; have := HN.out; omega
        rw [hlt] at HTR
        clear hlt
        refine wp_region_stages (fun w' => ∃ k, w' = (wc).drewN k) [(false, 0), (false, 1), (false, 2), (false, 3), (false, 4), (false, 5), (false, 7), (false, 8), (false, 9), (false, 10), (false, 11), (false, 12), (true, 6), (false, 13), (false, 14)] 15 [.reads [_, _, _, _, _, _, _, _, _, _, _, _], .loud _, .reads [_, _]] [] (by kernel_rfl) (by kernel_rfl) rfl rfl ?_ ?_
        · exact ⟨1, rfl⟩
        refine wpStages_reads ?_
        repeat (go_big_quiet_step (fail))
        refine wpQuiet_nil ?_
        refine wpStages_loud rfl ?_
        intro K hK
        go_big_op
        refine (HTR.out _ ((H2.out.take q).drewN 1)).mono ?_
        rintro e w1 ⟨rfl, rfl⟩
        refine hK _ _ ⟨1, rfl⟩ ?_
        clear hK K
        refine wpStages_reads ?_
        repeat (go_big_quiet_step (fail))
        refine wpQuiet_nil ?_
        refine wpStages_nil ?_
        go_wp2_with fail
        go_meet
        have hcut := H2.out.cut (k := q) (cap := c2) (by rw [← E2.out]; have := HC.out; omega)
        rw [if_neg HCP.out] at hcut
        exact ⟨some ((ad2).add q), c2 - q, rfl, rfl, Lib.hid (by have := HN.out; have := HC.out; omega), Lib.hid (hcut.drewN 1), Lib.hid (below_drewN (Below.refl _ _) 1)⟩
    case rest =>
      clear hqI hqN qI qJ
      obtain ⟨AY, cY, rfl, rfl, HCY, HY1, HB2⟩ := hcut
      have HY0 := Lib.hid (H2.out.stay HB2.out)
      replace HX0 := Lib.hid (HX0.out.stay HB2.out)
      replace HX1 := Lib.hid (HX1.out.stay HB2.out)
      replace HW := Lib.hid (HW.out.stay HB2.out)
      replace HB := Lib.hid (HB.out.stay HB2.out)
      clear HB2 H1 H2
      have HXT := Lib.hid (show Lim wc wc.heap.size (some ad1) (limbs (val (xs.take p))) from (HX0.out.take p).trim)
      have HYT := Lib.hid (show Lim wc wc.heap.size (some ad2) (limbs (val (ys.take q))) from (HY0.out.take q).trim)
      have HSX := Lib.hid (show (xs.drop p).length = l1 - p ∧ (limbs (val (xs.take p))).length ≤ n ∧ (limbs (val (xs.take p))).length ≤ c1 by
        have h1 := limbs_val_le (HX0.out.small.take p)
        rw [List.length_take] at h1
        have h2 := HN.out
        have h3 := HC.out
        rw [List.length_drop, E1.out]
        refine ⟨rfl, by omega, by have := E1.out; omega⟩)
      have HSY := Lib.hid (show (ys.drop q).length = l2 - q ∧ (limbs (val (ys.take q))).length ≤ n ∧ (limbs (val (ys.take q))).length ≤ c2 by
        have h1 := limbs_val_le (HY0.out.small.take q)
        rw [List.length_take] at h1
        have h2 := HN.out
        have h3 := HC.out
        rw [List.length_drop, E2.out]
        refine ⟨rfl, by omega, by have := E2.out; omega⟩)
      obtain ⟨a, ha⟩ : ∃ a, val (xs.take p) = a := ⟨_, rfl⟩
      obtain ⟨b, hb⟩ : ∃ b, val (xs.drop p) = b := ⟨_, rfl⟩
      obtain ⟨c, hc⟩ : ∃ c, val (ys.take q) = c := ⟨_, rfl⟩
      obtain ⟨f, hf⟩ : ∃ f, val (ys.drop q) = f := ⟨_, rfl⟩
      rw [ha] at HXT HSX HX ⊢
      rw [hb] at HX
      rw [hc] at HYT HSY HY ⊢
      rw [hf] at HY
      have HBD := Lib.hid (show b < W64 ^ n ∧ f < W64 ^ n ∧ a < W64 ^ n ∧ c < W64 ^ n by
        have h1 := HN.out
        refine ⟨?_, ?_, lc_le.1 HSX.out.2.1, lc_le.1 HSY.out.2.1⟩
        · rw [← hb]; exact Nat.lt_of_lt_of_le (val_lt HX1.out.small) (Nat.pow_le_pow_right W64_pos (by rw [HSX.out.1]; omega))
        · rw [← hf]; exact Nat.lt_of_lt_of_le (val_lt HY1.out.small) (Nat.pow_le_pow_right W64_pos (by rw [HSY.out.1]; omega)))
      have HBV := Lib.hid (And.intro hb hf)
      clear ha hb hc hf HX0 HY0
      go_wp2_with fail
      have C := HIH.out (some ad1) (some ad2) _ _ c1 c2 (limbs a) (limbs c) wc HXT.out HYT.out rfl rfl HSX.out.2.2 HSY.out.2.2 (by have := HSX.out.2.1; have := HN.out; omega) (by have := HSY.out.2.1; have := HN.out; omega) HW.out
      rw [val_limbs, val_limbs] at C
      refine C.mono ?_
      rintro e w4 ⟨Al, cl, rfl, hcl, hll, -, hb⟩
      have HL := Lib.hid hll
      have HCL := Lib.hid hcl
      replace HXT := Lib.hid (HXT.out.stay hb)
      replace HYT := Lib.hid (HYT.out.stay hb)
      replace HX1 := Lib.hid (HX1.out.stay hb)
      replace HY1 := Lib.hid (HY1.out.stay hb)
      replace HW := Lib.hid (HW.out.stay hb)
      replace HB := Lib.hid (HB.out.stay hb)
      clear C hcl hll hb
      go_wp2_with fail
      have C := HIH.out AX AY (l1 - p) (l2 - q) cX cY (xs.drop p) (ys.drop q) w4 HX1.out HY1.out HSX.out.1.symm HSY.out.1.symm HCX.out HCY.out (by have := HN.out; omega) (by have := HN.out; omega) HW.out
      rw [HBV.out.1, HBV.out.2] at C
      refine C.mono ?_
      rintro e w5 ⟨Ah, ch, rfl, hch, hlh, -, hb⟩
      have HH := Lib.hid hlh
      have HCH := Lib.hid hch
      replace HXT := Lib.hid (HXT.out.stay hb)
      replace HYT := Lib.hid (HYT.out.stay hb)
      replace HX1 := Lib.hid (HX1.out.stay hb)
      replace HY1 := Lib.hid (HY1.out.stay hb)
      replace HW := Lib.hid (HW.out.stay hb)
      replace HB := Lib.hid (HB.out.stay hb)
      replace HL := Lib.hid (HL.out.stay hb)
      clear C hch hlh hb
      have HKL := Lib.hid (kar_sizes HBD.out)
      have hmk := make_limbs (2 * n + 3) (by have := HN.out; omega)
      rw [Int.natCast_add, Int.natCast_mul, show ((2 : Nat) : Int) = 2 from rfl, show ((3 : Nat) : Int) = 3 from rfl] at hmk
      go_upto_region 6 with (fail)
      obtain ⟨W5, gm, hW5, hgm⟩ : ∃ W g, w5.alloc (.cells (madeCells #[.int .u64 0] (2 * n + 3)) 41) = W ∧ w5.heap.size = g := ⟨_, _, rfl, rfl⟩
      have hb5 : Below w5.heap.size w5 W5 := by rw [← hW5]; exact (Below.refl _ _).alloc (Nat.le_refl _) _
      have HRM := Lib.hid (show Row W5 gm (List.replicate (2 * n + 3) 0) by rw [← hW5, ← hgm]; exact Row.made _ _)
      have HFM := Lib.hid (show Fresh W5 gm (some ⟨gm, 0, none⟩) (2 * n + 3) by rw [← hW5, ← hgm]; exact Fresh.made w5 (2 * n + 3))
      have HGM := Lib.hid (show w5.heap.size = gm ∧ w.heap.size ≤ gm from ⟨hgm, by rw [← hgm]; exact HB.out.size⟩)
      have HLW := Lib.hid HL.out
      have HHW := Lib.hid HH.out
      rw [hW5, hgm]
      replace HXT := Lib.hid (HXT.out.stay hb5)
      replace HYT := Lib.hid (HYT.out.stay hb5)
      replace HX1 := Lib.hid (HX1.out.stay hb5)
      replace HY1 := Lib.hid (HY1.out.stay hb5)
      replace HW := Lib.hid (HW.out.stay hb5)
      replace HB := Lib.hid (HB.out.stay hb5)
      have HB5 := Lib.hid (show Below gm w5 W5 by rw [← hgm]; exact hb5)
      clear hW5 hgm hb5 hmk HL HH
      go_wp2_with fail
      have C := times_sum (some ad1) AX _ (l1 - p) c1 cX (limbs a) (xs.drop p) W5 HXT.out HX1.out rfl HSX.out.1.symm (by have := HSX.out.2.1; have := HN.out; omega) (by have := HN.out; omega)
      rw [val_limbs, HBV.out.1] at C
      refine C.mono ?_
      rintro e w6 ⟨As, cs, rfl, hcs, hls, -, hb⟩
      have HS := Lib.hid hls
      have HCS := Lib.hid hcs
      replace HB5 := Lib.hid (HB5.out.trans (hb.mono (Nat.le_of_lt HRM.out.lt)))
      replace HFM := Lib.hid (HFM.out.below hb)
      replace HYT := Lib.hid (HYT.out.stay hb)
      replace HY1 := Lib.hid (HY1.out.stay hb)
      replace HW := Lib.hid (HW.out.stay hb)
      replace HB := Lib.hid (HB.out.stay hb)
      replace HRM := Lib.hid (HRM.out.stay hb)
      clear C hcs hls hb
      go_wp2_with fail
      have C := times_sum (some ad2) AY _ (l2 - q) c2 cY (limbs c) (ys.drop q) w6 HYT.out HY1.out rfl HSY.out.1.symm (by have := HSY.out.2.1; have := HN.out; omega) (by have := HN.out; omega)
      rw [val_limbs, HBV.out.2] at C
      refine C.mono ?_
      rintro e w7 ⟨At, ct, rfl, hct, hlt, -, hb⟩
      have HT := Lib.hid hlt
      have HCT := Lib.hid hct
      replace HB5 := Lib.hid (HB5.out.trans (hb.mono (Nat.le_of_lt HRM.out.lt)))
      replace HFM := Lib.hid (HFM.out.below hb)
      replace HS := Lib.hid (HS.out.stay hb)
      replace HW := Lib.hid (HW.out.stay hb)
      replace HB := Lib.hid (HB.out.stay hb)
      replace HRM := Lib.hid (HRM.out.stay hb)
      clear C hct hlt hb
      go_wp2_with fail
      have C := HIH.out As At _ _ cs ct (limbs (a + b)) (limbs (c + f)) w7 HS.out HT.out rfl rfl HCS.out HCT.out (by have h1 := HKL.out.2.2.1; have := HN.out; unfold lc at h1; omega) (by have h1 := HKL.out.2.2.2.1; have := HN.out; unfold lc at h1; omega) HW.out
      rw [val_limbs, val_limbs] at C
      refine C.mono ?_
      rintro e w8 ⟨Ap, cp, rfl, hcp, hlp, hfp, hb⟩
      have HP := Lib.hid hlp
      have HNP := Lib.hid (fun (_ : 0 < (limbs ((a + b) * (c + f))).length) ad e => hfp.ne HRM.out.lt (ad := ad) e)
      replace HB5 := Lib.hid (HB5.out.trans (hb.mono (Nat.le_of_lt HRM.out.lt)))
      replace HFM := Lib.hid (HFM.out.below hb)
      replace HB := Lib.hid (HB.out.stay hb)
      replace HRM := Lib.hid (HRM.out.stay hb)
      clear C hcp hlp hfp hb HW HS HT
      obtain ⟨PM, hPM⟩ : ∃ x, (a + b) * (c + f) = x := ⟨_, rfl⟩
      have HPM := Lib.hid hPM
      rw [hPM] at HP HNP HKL ⊢
      clear hPM
      go_wp2_with fail
      have C := times_put gm (2 * n + 3) (2 * n + 3) 0 (List.replicate (2 * n + 3) 0) Ap _ cp (limbs PM) w8 HRM.out HP.out HNP.out (by rw [List.length_replicate]) rfl (by have h1 := HKL.out.2.2.2.2; unfold lc at h1; omega) (by rw [val_zeros, Nat.pow_zero, Nat.one_mul, Nat.zero_add, val_limbs]; exact lc_le.1 (by have := HKL.out.2.2.2.2; omega)) (by have := HN.out; omega)
      rw [Int.natCast_zero, val_zeros, Nat.pow_zero, Nat.one_mul, Nat.zero_add, val_limbs] at C
      refine C.mono ?_
      rintro e w9 ⟨v9, os9, rfl, hr, hl9, hv9, hgr⟩
      have HLM := Lib.hid (And.intro hl9 hv9)
      replace HB5 := Lib.hid (below_grown HB5.out (Nat.le_of_lt HRM.out.lt) hgr.1 (Nat.le_refl _))
      replace HB := Lib.hid (show Since w w9 from below_grown HB.out HB.out.size hgr.1 HGM.out.2)
      replace HFM := Lib.hid (hgr.2 _ _ HFM.out)
      replace HRM := Lib.hid hr
      clear C hr hl9 hv9 hgr HP HNP
      go_wp2_with fail
      have HNUM := Lib.hid (kar_nums HBD.out)
      have C := times_take gm (2 * n + 3) (2 * n + 3) os9 Al _ cl (limbs (a * c)) w9 HRM.out ((HLW.out.below' (by rw [HGM.out.1]; exact HB5.out)).more (by have := HRM.out.lt; have := HGM.out.1; omega)) (HLW.out.far (by rw [HGM.out.1]; exact Nat.le_refl _)) HLM.out.1.symm rfl (by have h1 := HKL.out.1; unfold lc at h1; omega) (by rw [val_limbs, HLM.out.2, ← HPM.out]; exact HNUM.out.1) (by have := HN.out; omega)
      rw [val_limbs, HLM.out.2] at C
      refine C.mono ?_
      rintro e w10 ⟨v10, os10, rfl, hr, hl10, hv10, hgr⟩
      have HV10 := Lib.hid hv10
      have HL10 := Lib.hid hl10
      replace HB5 := Lib.hid (below_grown HB5.out (Nat.le_of_lt HRM.out.lt) hgr.1 (Nat.le_refl _))
      replace HB := Lib.hid (show Since w w10 from below_grown HB.out HB.out.size hgr.1 HGM.out.2)
      replace HFM := Lib.hid (hgr.2 _ _ HFM.out)
      replace HRM := Lib.hid hr
      clear C hr hl10 hv10 hgr HLM
      go_wp2_with fail
      have C := times_take gm (2 * n + 3) (2 * n + 3) os10 Ah _ ch (limbs (b * f)) w10 HRM.out ((HHW.out.below' (by rw [HGM.out.1]; exact HB5.out)).more (by have := HRM.out.lt; have := HGM.out.1; omega)) (HHW.out.far (by rw [HGM.out.1]; exact Nat.le_refl _)) HL10.out.symm rfl (by have h1 := HKL.out.2.1; unfold lc at h1; omega) (by rw [val_limbs]; have h1 := HNUM.out.2; have h2 := HV10.out; have h3 := HPM.out; omega) (by have := HN.out; omega)
      rw [val_limbs] at C
      refine C.mono ?_
      rintro e w11 ⟨v11, os11, rfl, hr, hl11, hv11, hgr⟩
      have HV11 := Lib.hid (show val os11 + b * f + a * c = (a + b) * (c + f) by rw [hv11, HV10.out, HPM.out])
      have HL11 := Lib.hid hl11
      replace HB5 := Lib.hid (below_grown HB5.out (Nat.le_of_lt HRM.out.lt) hgr.1 (Nat.le_refl _))
      replace HB := Lib.hid (show Since w w11 from below_grown HB.out HB.out.size hgr.1 HGM.out.2)
      replace HFM := Lib.hid (hgr.2 _ _ HFM.out)
      replace HRM := Lib.hid hr
      clear C hr hl11 hv11 hgr HV10 HL10
      obtain ⟨M, hM⟩ : ∃ M, val os11 = M := ⟨_, rfl⟩
      have HMV := Lib.hid hM
      have HPROD := Lib.hid (kar_prod (n := n) (M := M) HBD.out (by rw [← hM]; exact HV11.out))
      have HML := Lib.hid (show lc M ≤ 2 * n + 3 by rw [← hM]; exact Nat.le_trans (limbs_val_le HRM.out.small) (by rw [HL11.out]; exact Nat.le_refl _))
      clear hM
      have hmk := make_limbs (4 * n + 4) (by have := HN.out; omega)
      rw [Int.natCast_add, Int.natCast_mul, show ((4 : Nat) : Int) = 4 from rfl] at hmk
      go_upto_region 10 with (fail)
      obtain ⟨W11, go, hW, hgo⟩ : ∃ W g, w11.alloc (.cells (madeCells #[.int .u64 0] (4 * n + 4)) 41) = W ∧ w11.heap.size = g := ⟨_, _, rfl, rfl⟩
      have hb11 : Below w11.heap.size w11 W11 := by rw [← hW]; exact (Below.refl _ _).alloc (Nat.le_refl _) _
      have HRO := Lib.hid (show Row W11 go (List.replicate (4 * n + 4) 0) by rw [← hW, ← hgo]; exact Row.made _ _)
      have HFO := Lib.hid (show Fresh W11 go (some ⟨go, 0, none⟩) (4 * n + 4) by rw [← hW, ← hgo]; exact Fresh.made w11 (4 * n + 4))
      have HGO := Lib.hid (show gm < go ∧ w.heap.size ≤ go from ⟨by rw [← hgo]; exact HRM.out.lt, by rw [← hgo]; exact HB.out.size⟩)
      rw [hW, hgo]
      have HL := Lib.hid (((HLW.out.below' (by rw [HGM.out.1]; exact HB5.out)).more (show w5.heap.size ≤ go by have h1 := HGM.out.1; have h2 := HGO.out.1; omega)))
      have HH := Lib.hid (((HHW.out.below' (by rw [HGM.out.1]; exact HB5.out)).more (show w5.heap.size ≤ go by have h1 := HGM.out.1; have h2 := HGO.out.1; omega)))
      have HBO := Lib.hid (show Below go w11 W11 by rw [← hgo]; exact hb11)
      replace HB := Lib.hid (HB.out.stay hb11)
      clear hW hgo hb11 hmk HLW HHW HB5
      go_wp2_with fail
      have C := times_put go (4 * n + 4) (4 * n + 4) 0 (List.replicate (4 * n + 4) 0) Al _ cl (limbs (a * c)) W11 HRO.out (HL.out.below' HBO.out |>.more (Nat.le_of_lt HRO.out.lt)) (HL.out.far (Nat.le_refl _)) (by rw [List.length_replicate]) rfl (by have h1 := HKL.out.1; unfold lc at h1; omega) (by rw [val_zeros, Nat.pow_zero, Nat.one_mul, Nat.zero_add, val_limbs]; have := HPROD.out.2; omega) (by have := HN.out; omega)
      rw [Int.natCast_zero, val_zeros, Nat.pow_zero, Nat.one_mul, Nat.zero_add, val_limbs] at C
      refine C.mono ?_
      rintro e w12 ⟨v12, os12, rfl, hr, hl12, hv12, hgr⟩
      have HV12 := Lib.hid hv12
      have HL12 := Lib.hid hl12
      replace HBO := Lib.hid (below_grown HBO.out (Nat.le_of_lt HRO.out.lt) hgr.1 (Nat.le_refl _))
      replace HB := Lib.hid (show Since w w12 from below_grown HB.out HB.out.size hgr.1 HGO.out.2)
      replace HFO := Lib.hid (hgr.2 _ _ HFO.out)
      replace HRO := Lib.hid hr
      clear C hr hl12 hv12 hgr HL
      go_wp2_with fail
      have HRM2 := Lib.hid (show Lim w12 go (some ⟨gm, 0, none⟩) os11 from (HRM.out.lim HGO.out.1).below' HBO.out)
      have T := times_trim (some ⟨gm, 0, none⟩) (2 * n + 3) os11 w12 HRM2.out (by rw [HL11.out]; exact Nat.le_refl _) (by rw [HL11.out]; have := HN.out; omega)
      rw [HL11.out, HMV.out] at T
      have HTM := Lib.hid (show Lim w12 go (some ⟨gm, 0, none⟩) (limbs M) by rw [← HMV.out]; exact HRM2.out.trim)
      refine T.mono ?_
      rintro e w13 ⟨rfl, rfl⟩
      clear T HRM2
      go_wp2_with fail
      have C := times_put go (4 * n + 4) (4 * n + 4) n os12 (some ⟨gm, 0, none⟩) _ (2 * n + 3) (limbs M) w12 HRO.out (HTM.out.more (Nat.le_of_lt HRO.out.lt)) (HTM.out.far (Nat.le_refl _)) HL12.out.symm rfl (by have h1 := HML.out; unfold lc at h1; omega) (by rw [HV12.out, val_limbs]; have := HPROD.out.2; omega) (by have := HN.out; omega)
      rw [HV12.out, val_limbs] at C
      refine C.mono ?_
      rintro e w14 ⟨v14, os14, rfl, hr, hl14, hv14, hgr⟩
      have HV14 := Lib.hid hv14
      have HL14 := Lib.hid hl14
      replace HBO := Lib.hid (below_grown HBO.out (Nat.le_of_lt HRO.out.lt) hgr.1 (Nat.le_refl _))
      replace HB := Lib.hid (show Since w w14 from below_grown HB.out HB.out.size hgr.1 HGO.out.2)
      replace HFO := Lib.hid (hgr.2 _ _ HFO.out)
      replace HRO := Lib.hid hr
      clear C hr hl14 hv14 hgr HTM HV12 HL12
      go_wp2_with fail
      have C := times_put go (4 * n + 4) (4 * n + 4) (2 * n) os14 Ah _ ch (limbs (b * f)) w14 HRO.out ((HH.out.below' HBO.out).more (Nat.le_of_lt HRO.out.lt)) (HH.out.far (Nat.le_refl _)) HL14.out.symm rfl (by have h1 := HKL.out.2.1; unfold lc at h1; omega) (by rw [HV14.out, val_limbs]; exact HPROD.out.2) (by have := HN.out; omega)
      rw [HV14.out, val_limbs, HPROD.out.1, ← HX.out, ← HY.out, Int.natCast_mul, show ((2 : Nat) : Int) = 2 from rfl] at C
      refine C.mono ?_
      rintro e w15 ⟨v15, os15, rfl, hr, hl15, hv15, hgr⟩
      have HV15 := Lib.hid hv15
      have HL15 := Lib.hid hl15
      replace HB := Lib.hid (show Since w w15 from below_grown HB.out HB.out.size hgr.1 HGO.out.2)
      replace HFO := Lib.hid (hgr.2 _ _ HFO.out)
      replace HRO := Lib.hid hr
      clear C hr hl15 hv15 hgr
      go_wp2_with fail
      have T := times_trim (some ⟨go, 0, none⟩) (4 * n + 4) os15 w15 HRO.out.lim' (by rw [HL15.out]; exact Nat.le_refl _) (by rw [HL15.out]; have := HN.out; omega)
      rw [HL15.out, HV15.out] at T
      refine T.mono ?_
      rintro e w16 ⟨rfl, rfl⟩
      clear T
      go_wp2_with fail
      go_ret
      have hl3 := limbs_val_le HRO.out.small
      have ht := HRO.out.lim'.trim
      rw [HV15.out] at hl3 ht
      rw [HL15.out] at hl3
      exact ⟨_, _, rfl, hl3, ht, HFO.out.since HGO.out.2, HB.out⟩
set_option maxHeartbeats 1000000 in
set_option maxRecDepth 100000 in
theorem times_way (d g : Nat) : ∀ m, m ≤ 17179869184 → Way m d g := by
  intro m
  induction m with
  | zero =>
    intro _ A1 A2 l1 l2 c1 c2 xs ys W h1 h2 e1 e2 _ _ hm1 hm2 hw
    exact times_deep1 A1 A2 l1 l2 c1 c2 d g xs ys W h1 h2 e1 e2 (by omega) hw.cd (by omega)
  | succ m ih =>
    intro hm A1 A2 l1 l2 c1 c2 xs ys W h1 h2 e1 e2 hc1 hc2 hm1 hm2 hw
    by_cases hs : min l1 l2 < 24
    · exact times_deep1 A1 A2 l1 l2 c1 c2 d g xs ys W h1 h2 e1 e2 (by omega) hw.cd hs
    · have hsI : ¬ min (l1 : Int) (l2 : Int) < 24 := by omega
      have HH := Lib.hid (times_halves m d g (ih (by omega)) A1 A2 l1 l2 c1 c2 xs ys W h1 h2 e1 e2 hc1 hc2 (by omega) (by omega) (by omega) (by omega) (by omega) hw)
      have hd := hw.cd
      have hg := hw.cg
      unfold wayF at hg
      clear ih h1 h2 e1 e2 hc1 hc2 hm1 hm2 hw hs
      go_enter Tryz.func135, Tryz.ntmps135
      go_wp2_with fail
      refine HH.out.mono ?_
      rintro e w1 ⟨A, c, rfl, hc, hl, hf, hb⟩
      have H := Lib.hid (And.intro hc (And.intro hl (And.intro hf hb)))
      clear hc hl hf hb hd hg
      go_wp2_with fail
      go_ret
      exact ⟨A, c, rfl, H.out.1, H.out.2.1, H.out.2.2.1, H.out.2.2.2⟩
end Go.Proofs.YtjbagikfogejnaaGreatDoor
/- The package times: Mul of any numbers. -/
namespace Go.Proofs.YtjbagikfogejnaaGreatDoor
open Go.RowKit Go.Deep
set_option maxRecDepth 100000 in
theorem times_told_any (u v : Value) (d p : Nat) (x y : Int) (w : World) (hx : IntV w u x) (hy : IntV w v y) (lx : lc x.natAbs ≤ 4096) (ly : lc y.natAbs ≤ 4096) (hd : WayC w d p) :
    Calls Tryz.prog 91 #[u, v, .func (.func 135) #[] #[.pointer (some ⟨d, 0, none⟩), .pointer (some ⟨p, 0, none⟩)]] w fun e w' => ∃ v', e = .returned (.tuple #[v', .int .i64 (longE (x * y))]) ∧ RawAt w' w.heap.size v' (longR (x * y)) ∧ Below w.heap.size w w' := by
  obtain ⟨A1, l1, c1, rfl, hl1, hc1, hlim1⟩ := hx
  obtain ⟨A2, l2, c2, rfl, hl2, hc2, hlim2⟩ := hy
  have HR1 := Lib.hid (right_of lx)
  have HR2 := Lib.hid (right_of ly)
  have HL1 := Lib.hid hl1
  have HL2 := Lib.hid hl2
  have hI1 : (l1 : Int) ≤ 4096 := by unfold lc at lx; omega
  have hI2 : (l2 : Int) ≤ 4096 := by unfold lc at ly; omega
  have HX := Lib.hid lx
  have HY := Lib.hid ly
  clear hl1 hl2 lx ly
  obtain ⟨s1, hs1⟩ : ∃ s, decide (x < 0) = s := ⟨_, rfl⟩
  obtain ⟨s2, hs2⟩ : ∃ s, decide (y < 0) = s := ⟨_, rfl⟩
  have HS1 := Lib.hid hs1
  have HS2 := Lib.hid hs2
  rw [hs1, hs2]
  clear hs1 hs2
  have HCC := Lib.hid (And.intro hc1 hc2)
  have HDD := Lib.hid hd
  clear hd
  go_enter Tryz.func91, Tryz.ntmps91
  go_wp2_with fail
  obtain ⟨W0, g, h, r, hW, hg, hh, hr, hgr, bx, by_, br, hbw, hsz⟩ := box_three w (.bool s1) (.slice A1 l1 c1) (.bool s2) (.slice A2 l2 c2) (.bool false) (.slice none 0 0)
  have HW := Lib.hid (show w.heap.size = g from hg)
  replace HDD := Lib.hid (HDD.out.stay (show Below w.heap.size w W0 from hg ▸ hbw))
  rw [hW, hr, hh, hg]
  have k1 := ((hg ▸ hlim1 : Lim w g A1 (limbs x.natAbs)).below hbw)
  have k2 := ((hg ▸ hlim2 : Lim w g A2 (limbs y.natAbs)).below hbw)
  clear hW hr hh hlim1 hlim2
  refine (limb_right s1 A1 l1 c1 (limbs x.natAbs) W0 (by omega) k1 HL1.out).mono ?_
  rintro e w1 ⟨rfl, hb1⟩
  rw [← HS1.out, HR1.out, HS1.out]
  replace HDD := Lib.hid (HDD.out.stay hb1)
  have bx := bx.below hb1 bx.lt
  have by_ := by_.below hb1 by_.lt
  have br := br.below hb1 br.lt
  have hbw1 := hbw.trans (hb1.mono (by omega))
  have k1 := k1.below (hb1.mono (by omega))
  have k2 := k2.below (hb1.mono (by omega))
  have hsz1 := hb1.size
  have a0 := bx.cell0
  have a1 := bx.cell1
  have b0 := by_.cell0
  have b1 := by_.cell1
  clear hb1 hg
  go_wp2_with fail
  refine (limb_right s2 A2 l2 c2 (limbs y.natAbs) w1 (by omega) k2 HL2.out).mono ?_
  rintro e w2 ⟨rfl, hb2⟩
  rw [← HS2.out, HR2.out, HS2.out]
  replace HDD := Lib.hid (HDD.out.stay hb2)
  have bx := bx.below hb2 bx.lt
  have by_ := by_.below hb2 by_.lt
  have br := br.below hb2 br.lt
  have hbw2 := hbw1.trans (hb2.mono (by omega))
  have k1 := (k1.below (hb2.mono (by omega))).more (show g ≤ w2.heap.size by have := hb2.size; omega)
  have k2 := (k2.below (hb2.mono (by omega))).more (show g ≤ w2.heap.size by have := hb2.size; omega)
  have HSZ2 := Lib.hid (show g + 3 ≤ w2.heap.size by have := hb2.size; omega)
  clear hb2 a0 a1 b0 b1 hbw1 hbw hsz1 hsz
  have a0 := bx.cell0
  have a1 := bx.cell1
  have b0 := by_.cell0
  have b1 := by_.cell1
  have hNN := Int.natAbs_mul x y
  by_cases hbig : 4097 < l1 + l2
  · have hLONG : 4096 < lc (x * y).natAbs := by
      rw [hNN]
      have e1 := HL1.out
      have e2 := HL2.out
      have h1 : 0 < x.natAbs := Nat.pos_of_ne_zero fun h => by rw [h, limbs_zero] at e1; simp at e1; omega
      have h2 : 0 < y.natAbs := Nat.pos_of_ne_zero fun h => by rw [h, limbs_zero] at e2; simp at e2; omega
      have := lc_mul_ge h1 h2
      unfold lc at this ⊢
      omega
    have HR := Lib.hid (show longR (x * y) = (false, []) by unfold longR; rw [if_pos hLONG])
    have HE := Lib.hid (show longE (x * y) = 3 by unfold longE; rw [if_pos hLONG])
    have t2 : (0 : Int) < (l1 : Int) := by omega
    have t3 : (0 : Int) < (l2 : Int) := by omega
    have t1 : (4097 : Int) < (l1 : Int) + (l2 : Int) := by omega
    have d0 := br.cell0
    have d1 := br.cell1
    have fr := br.free
    clear hLONG hNN
    go_wp2_with fail
    refine bodyPost_ret (v := .tuple #[.agg #[.bool false, (.slice none 0 0)], (.int .i64 3)]) (by
      rw [results_cell_tmp rfl]
      have hld := run_loadVar_row (P := Tryz.prog) _ r 24 24 #[.bool false, (.slice none 0 0)] (0, 0) _ br.store Tryz.underlying24 rfl (by kernel_rfl)
      simp [asAddr, Result.andThen, hld]) rfl ?_
    rw [HR.out, HE.out]
    exact ⟨_, rfl, RawAt.zero _ _, by rw [HW.out]; exact store2_below hbw2 (by omega)⟩
  · have HNB := Lib.hid hbig
    have HNN := Lib.hid hNN
    have hcnd : ¬ ((4097 : Int) < (l1 : Int) + (l2 : Int)) := by omega
    have HBR := Lib.hid br
    have HBW := Lib.hid hbw2
    clear hbig hNN
    go_wp2_with fail
    refine (times_way d p 17179869184 (Nat.le_refl _) A1 A2 l1 l2 c1 c2 (limbs x.natAbs) (limbs y.natAbs) w2 k1 k2 HL1.out HL2.out HCC.out.1 HCC.out.2 (by omega) (by omega) HDD.out).mono ?_
    rintro e w3 ⟨A, c, rfl, hc, hlim, hf, hb3⟩
    rw [val_limbs, val_limbs, ← HNN.out] at hc hlim ⊢
    obtain ⟨n, hn⟩ : ∃ n, (limbs (x * y).natAbs).length = n := ⟨_, rfl⟩
    have HN := Lib.hid hn
    rw [hn]
    have br3 := HBR.out.below hb3 HBR.out.lt
    have bx3 := bx.below hb3 bx.lt
    have by3 := by_.below hb3 by_.lt
    have HBF := Lib.hid (HBW.out.trans (hb3.mono (by have := HSZ2.out; omega)))
    have HF := Lib.hid hf
    have HLIM := Lib.hid hlim
    have HC := Lib.hid (show n ≤ c by rw [← hn]; exact hc)
    clear a0 a1 b0 b1 hn hc hlim hf hb3 bx by_ br
    have a0 := bx3.cell0
    have b0 := by3.cell0
    have d0 := br3.cell0
    have d1 := br3.cell1
    have fr := br3.free
    by_cases hlong : 4096 < n
    · have HR := Lib.hid (show longR (x * y) = (false, []) by unfold longR; rw [if_pos (by unfold lc; rw [HN.out]; exact hlong)])
      have HE := Lib.hid (show longE (x * y) = 3 by unfold longE; rw [if_pos (by unfold lc; rw [HN.out]; exact hlong)])
      have hlI : (4096 : Int) < (n : Int) := by omega
      clear hlong
      go_wp2_with fail
      refine bodyPost_ret (v := .tuple #[.agg #[.bool false, (.slice none 0 0)], (.int .i64 3)]) (by
        rw [results_cell_tmp rfl]
        have hld := run_loadVar_row (P := Tryz.prog) _ r 24 24 #[.bool false, (.slice none 0 0)] (0, 0) _ br3.store Tryz.underlying24 rfl (by kernel_rfl)
        simp [asAddr, Result.andThen, hld]) rfl ?_
      rw [HR.out, HE.out]
      exact ⟨_, rfl, RawAt.zero _ _, by rw [HW.out]; exact store2_below HBF.out (by omega)⟩
    · have HOK : lc (x * y).natAbs ≤ 4096 := by unfold lc; rw [HN.out]; omega
      have HR := Lib.hid (longR_ok HOK)
      have HE := Lib.hid (longE_ok HOK)
      have hlI : ¬ ((4096 : Int) < (n : Int)) := by omega
      have HSG := Lib.hid (show decide (x * y < 0) = (decide (0 < n) && (s1 != s2)) by
        have h1 := signed_mul' s1 s2 x.natAbs y.natAbs
        rw [← HS1.out, ← HS2.out, signed_of, signed_of, HS1.out, HS2.out] at h1
        rw [← h1, signed_neg, Bool.and_comm, ← HN.out, ← Int.natAbs_mul, some_limbs])
      have HFIN := Lib.hid (fun (b : Bool) (hb : b = decide (x * y < 0)) => show RawAt ((w3.setCell ⟨r, 0, none⟩ (.bool b)).setCell ⟨r, 1, none⟩ (.slice A n c)) w.heap.size (.agg #[.bool b, .slice A n c]) (rawOf (x * y)) from by
        subst hb
        have h1 : RawAt w3 w2.heap.size (.agg #[.bool (decide (x * y < 0)), .slice A n c]) (rawOf (x * y)) := ⟨A, n, c, rfl, HN.out.symm, HC.out, HLIM.out, HF.out⟩
        exact (h1.ext (ext_store2 br3.nums) (fun i hi => by subst hi; have := HSZ2.out; omega)).since (by rw [HW.out]; have := HSZ2.out; omega))
      clear hlong HOK
      by_cases hn0 : 0 < n
      · have hn0I : (0 : Int) < (n : Int) := by omega
        have HB := Lib.hid (show (!(s1 == s2)) = decide (x * y < 0) by rw [HSG.out, decide_eq_true hn0, Bool.true_and]; rfl)
        clear hn0
        go_wp2_with fail
        refine bodyPost_ret (v := .tuple #[.agg #[.bool (!(s1 == s2)), (.slice A n c)], (.int .i64 0)]) (by
          rw [results_cell_tmp rfl]
          have hld := run_loadVar_row (P := Tryz.prog) _ r 24 24 #[.bool (!(s1 == s2)), (.slice A n c)] (0, 0) _ br3.store Tryz.underlying24 rfl (by kernel_rfl)
          simp [asAddr, Result.andThen, hld]) rfl ?_
        rw [HR.out, HE.out]
        exact ⟨_, rfl, HFIN.out _ HB.out, by rw [HW.out]; exact store2_below HBF.out (by omega)⟩
      · have hn0I : ¬ ((0 : Int) < (n : Int)) := by omega
        have HB := Lib.hid (show false = decide (x * y < 0) by rw [HSG.out, decide_eq_false hn0, Bool.false_and])
        clear hn0
        go_wp2_with fail
        refine bodyPost_ret (v := .tuple #[.agg #[.bool false, (.slice A n c)], (.int .i64 0)]) (by
          rw [results_cell_tmp rfl]
          have hld := run_loadVar_row (P := Tryz.prog) _ r 24 24 #[.bool false, (.slice A n c)] (0, 0) _ br3.store Tryz.underlying24 rfl (by kernel_rfl)
          simp [asAddr, Result.andThen, hld]) rfl ?_
        rw [HR.out, HE.out]
        exact ⟨_, rfl, HFIN.out _ HB.out, by rw [HW.out]; exact store2_below HBF.out (by omega)⟩
set_option maxHeartbeats 1000000 in
set_option maxRecDepth 100000 in
theorem times_Mul_any (u v : Value) (x y : Int) (w : World) (hx : IntV w u x) (hy : IntV w v y) (lx : lc x.natAbs ≤ 4096) (ly : lc y.natAbs ≤ 4096) :
    Calls Tryz.prog 42 #[u, v] w fun e w' => ∃ v', e = .returned (.tuple #[v', .int .i64 (longE (x * y))]) ∧ RawAt w' w.heap.size v' (longR (x * y)) ∧ Below w.heap.size w w' := by
  obtain ⟨s1, A1, l1, c1, rfl, HU⟩ := hx.open
  obtain ⟨s2, A2, l2, c2, rfl, HV⟩ := hy.open
  have LX := Lib.hid lx
  have LY := Lib.hid ly
  clear hx hy lx ly
  go_enter Tryz.func42, Tryz.ntmps42
  go_wp2_with fail
  obtain ⟨W0, g, h, r, hW, hg, hh, hr, hgr, bx, by_, br, hbw, hsz⟩ := box_three w (.bool s1) (.slice A1 l1 c1) (.bool s2) (.slice A2 l2 c2) (.bool false) (.slice none 0 0)
  have HW := Lib.hid (show w.heap.size = g from hg)
  rw [hW, hr, hh, hg]
  have HBW := Lib.hid hbw
  have HBWS := Lib.hid (show Below w.heap.size w W0 from by rw [hg]; exact hbw)
  clear hW hr hg hh hbw
  refine wp_region_stages (fun w' => ∃ δ : Later Nix W0, w' = δ.world) [(false, 0), (false, 1), (true, 2), (true, 3), (false, 4), (false, 5)] 6 [.reads [_, _], .loud _, .loud _, .reads [_, _]] [_, _] (by kernel_rfl) (by kernel_rfl) rfl rfl ?_ ?_
  · exact ⟨⟨_, nix_drawn W0⟩, rfl⟩
  have r0 := later_cell bx.cell0
  have r1 := later_cell bx.cell1
  have r2 := later_cell by_.cell0
  have r3 := later_cell by_.cell1
  refine wpStages_reads ?_
  repeat (go_big_quiet_step (fail))
  refine wpQuiet_nil ?_
  refine wpStages_loud rfl ?_
  intro K hK
  go_big_op
  refine (times_deep _).mono ?_
  rintro e w1 ⟨d, p, rfl, hd, hp, hsz1, hb1, hcd, hcp⟩
  have he1 : Ext Nix W0 w1 := (nix_drawn W0).later (Ext.of_below hb1)
  have HD := Lib.hid (show d < w1.heap.size by have h : (W0.drewN 1).heap.size = W0.heap.size := rfl; omega)
  clear hd hp hsz1
  refine hK _ _ ⟨⟨w1, he1⟩, rfl⟩ ?_
  clear hK K
  refine wpStages_loud rfl ?_
  intro K hK
  go_big_op
  have hb01 : Below W0.heap.size W0 w1 := Ext.below (he1.mono (fun _ _ h => h) (fun _ h => h.elim))
  refine (times_told_any _ _ d p x y w1 ((HU.out.below HBWS.out).below hb01) ((HV.out.below HBWS.out).below hb01) LX.out LY.out ⟨hcd, hcp⟩).mono ?_
  rintro e w2 ⟨v2, rfl, hv2, hb2⟩
  have he2 : Ext Nix W0 w2 := he1.later (Ext.of_below hb2)
  refine hK _ _ ⟨⟨w2, he2⟩, rfl⟩ ?_
  clear hK K
  obtain ⟨E, hE⟩ : ∃ E : Int, longE (x * y) = E := ⟨_, rfl⟩
  have HE := Lib.hid hE
  rw [hE]
  clear hE
  obtain ⟨b2, B2, m2, d2, rfl, HV2⟩ := hv2.open
  have hb02 : Below W0.heap.size W0 w2 := Ext.below (he2.mono (fun _ _ h => h) (fun _ h => h.elim))
  have br2 := br.below hb02 br.lt
  have HB2 := Lib.hid (HBW.out.trans (hb02.mono (by omega)))
  have hbl := hb01.size
  have HR := Lib.hid ((HV2.out.ext (ext_store2 (a := .bool b2) (b := .slice B2 m2 d2) br2.nums) (fun i hi => by subst hi; omega)).since (base' := w.heap.size) (by rw [HW.out]; omega))
  have d0 := br2.cell0
  have d1 := br2.cell1
  have fr := br2.free
  clear hv2 hb2 hb1 hcd hcp r0 r1 r2 r3
  refine wpStages_reads ?_
  repeat (go_big_quiet_step (fail))
  refine wpQuiet_nil ?_
  refine wpStages_nil ?_
  go_wp2_with fail
  refine bodyPost_ret (v := .tuple #[.agg #[.bool b2, (.slice B2 m2 d2)], (.int .i64 E)]) (by
    rw [results_cell_tmp rfl]
    have hld := run_loadVar_row (P := Tryz.prog) _ r 24 24 #[.bool b2, (.slice B2 m2 d2)] (0, 0) _ br2.store Tryz.underlying24 rfl (by kernel_rfl)
    simp [asAddr, Result.andThen, hld]) rfl ?_
  rw [HE.out]
  exact ⟨_, rfl, HR.out, by rw [HW.out]; exact store2_below HB2.out (by omega)⟩
end Go.Proofs.YtjbagikfogejnaaGreatDoor
/- Contracts of the abstract machine: limb, times, divide, gcd. -/
namespace Go.Proofs.YtjbagikfogejnaaGreatDoor
open Go.RowKit Go.Deep
theorem ct_Right (x : Raw) : Ct Tryz.prog 50 [aNum x] (.val (aB (rightInt x))) :=
  ct1 Tryz.func50 rfl rfl rfl fun w u h => (raw_right u x w h).mono (by rintro e w' ⟨rfl, hb⟩; exact ⟨_, rfl, fun _ _ => rfl, hb⟩)
theorem ct_gzero (x : Raw) : Ct Tryz.prog 106 [aNum x] (.val (aB (decide (x.2.length = 0)))) :=
  ct1 Tryz.func106 rfl rfl rfl fun w u h => (gcd_zero u x w h).mono (by rintro e w' ⟨rfl, hb⟩; exact ⟨_, rfl, fun _ _ => rfl, hb⟩)
theorem rawOf_len0 {z : Int} : (rawOf z).2.length = 0 ↔ z = 0 := by
  show (limbs z.natAbs).length = 0 ↔ z = 0
  rw [List.length_eq_zero_iff, limbs_eq_nil]
  omega
abbrev aZ (z : Int) : AR := aNum (rawOf z)
abbrev zZ (z : Int) : AV := aInt (rawOf z)
theorem ct_gzeroT (z : Int) (h : z = 0) : Ct Tryz.prog 106 [aZ z] (.val (aB true)) := by
  have := ct_gzero (rawOf z)
  rwa [decide_eq_true (rawOf_len0.2 h)] at this
theorem ct_gzeroF (z : Int) (h : z ≠ 0) : Ct Tryz.prog 106 [aZ z] (.val (aB false)) := by
  have := ct_gzero (rawOf z)
  rwa [decide_eq_false (fun e => h (rawOf_len0.1 e))] at this
theorem ct_gsize (z : Int) (hl : lc z.natAbs ≤ 1099511627776) : Ct Tryz.prog 108 [aZ z] (aZ (z.natAbs : Int)) :=
  ct1 Tryz.func108 rfl rfl rfl fun w u h => (gcd_size u _ w h hl).mono (by
    rintro e w' ⟨v, rfl, h1, hb⟩
    refine ⟨v, rfl, fun G β => ok_of_rawV ?_, hb⟩
    have e : rawOf (z.natAbs : Int) = (false, (rawOf z).2) := by
      unfold rawOf
      rw [decide_eq_false (show ¬ ((z.natAbs : Int) < 0) by omega), Int.natAbs_natCast]
    rw [e]
    exact h1.rawV)
theorem ct_limbOf (n : Int) (h1 : -9223372036854775808 ≤ n) (h2 : n < 9223372036854775808) : Ct Tryz.prog 38 [.val (aI n)] (aZ n) where
  enters := fun vals w => enters_of Tryz.func38 rfl rfl vals w
  nop := rfl
  calls := by
    intro G β w vals _ ha
    rcases vals with _ | ⟨u, _ | ⟨v, vs⟩⟩
    · exact ha.elim
    · obtain ⟨hu, _⟩ := ha
      have hu : u = .int .i64 n := hu
      subst hu
      refine (limb_Of n w h1 h2).mono ?_
      rintro e w' ⟨v, rfl, h1, h2⟩
      exact ⟨v, rfl, ok_of_rawV h1.rawV, h2⟩
    · exact ha.2.elim
theorem ct_Neg (z : Int) (hl : lc z.natAbs ≤ 4096) : Ct Tryz.prog 105 [aZ z] (.tup [zZ (-z), aI 0]) :=
  ct1 Tryz.func105 rfl rfl rfl fun w u h => (limb_Neg u z w h.int hl).mono (by
    rintro e w' ⟨v, rfl, h1, hb⟩
    exact ⟨_, rfl, fun G β => tup_ok (vs := [_, _]) ⟨ok_of_rawV h1.rawV, rfl, trivial⟩, hb⟩)
theorem ct_Add (x y : Int) (hx : lc x.natAbs ≤ 4096) (hy : lc y.natAbs ≤ 4096) : Ct Tryz.prog 45 [aZ x, aZ y] (.tup [aInt (longR (x + y)), aI (longE (x + y))]) :=
  ct2 Tryz.func45 rfl rfl rfl fun w u v h k => (limb_Add u v x y w h.int k.int hx hy).mono (by
    rintro e w' ⟨r, rfl, h1, hb⟩
    exact ⟨_, rfl, fun G β => tup_ok (vs := [_, _]) ⟨ok_of_rawV h1.rawV, rfl, trivial⟩, hb⟩)
theorem ct_Add0 (x y : Int) (hx : lc x.natAbs ≤ 4096) (hy : lc y.natAbs ≤ 4096) (hs : lc (x + y).natAbs ≤ 4096) : Ct Tryz.prog 45 [aZ x, aZ y] (.tup [zZ (x + y), aI 0]) := by
  have h := ct_Add x y hx hy
  rwa [longR_ok hs, longE_ok hs] at h
theorem ct_Sub (x y : Int) (hx : lc x.natAbs ≤ 4096) (hy : lc y.natAbs ≤ 4096) : Ct Tryz.prog 93 [aZ x, aZ y] (.tup [aInt (longR (x - y)), aI (longE (x - y))]) :=
  ct2 Tryz.func93 rfl rfl rfl fun w u v h k => (limb_Sub u v x y w h.int k.int hx hy).mono (by
    rintro e w' ⟨r, rfl, h1, hb⟩
    exact ⟨_, rfl, fun G β => tup_ok (vs := [_, _]) ⟨ok_of_rawV h1.rawV, rfl, trivial⟩, hb⟩)
theorem ct_Sub0 (x y : Int) (hx : lc x.natAbs ≤ 4096) (hy : lc y.natAbs ≤ 4096) (hs : lc (x - y).natAbs ≤ 4096) : Ct Tryz.prog 93 [aZ x, aZ y] (.tup [zZ (x - y), aI 0]) := by
  have h := ct_Sub x y hx hy
  rwa [longR_ok hs, longE_ok hs] at h
theorem ct_Cmp (x y : Int) (hx : lc x.natAbs ≤ 4096) (hy : lc y.natAbs ≤ 4096) : Ct Tryz.prog 74 [aZ x, aZ y] (.tup [aI (cmpZ x y), aI 0]) :=
  ct2 Tryz.func74 rfl rfl rfl fun w u v h k => (limb_Cmp u v x y w h.int k.int hx hy).mono (by
    rintro e w' ⟨rfl, hb⟩
    exact ⟨_, rfl, fun G β => tup_ok (vs := [_, _]) ⟨rfl, rfl, trivial⟩, hb⟩)
theorem ct_Mul (x y : Int) (hx : lc x.natAbs ≤ 4096) (hy : lc y.natAbs ≤ 4096) : Ct Tryz.prog 42 [aZ x, aZ y] (.tup [aInt (longR (x * y)), aI (longE (x * y))]) :=
  ct2 Tryz.func42 rfl rfl rfl fun w u v h k => (times_Mul_any u v x y w h.int k.int hx hy).mono (by
    rintro e w' ⟨r, rfl, h1, hb⟩
    exact ⟨_, rfl, fun G β => tup_ok (vs := [_, _]) ⟨ok_of_rawV h1.rawV, rfl, trivial⟩, hb⟩)
theorem ct_Mul0 (x y : Int) (hx : lc x.natAbs ≤ 4096) (hy : lc y.natAbs ≤ 4096) (hs : lc x.natAbs + lc y.natAbs ≤ 4096) : Ct Tryz.prog 42 [aZ x, aZ y] (.tup [zZ (x * y), aI 0]) := by
  have h := ct_Mul x y hx hy
  have h3 : lc (x * y).natAbs ≤ 4096 := by rw [Int.natAbs_mul]; have := lc_mul x.natAbs y.natAbs; omega
  rwa [longR_ok h3, longE_ok h3] at h
theorem ct_Trunc (x y : Int) (hx : lc x.natAbs ≤ 1200) (hy : lc y.natAbs ≤ 1200) (h0 : y ≠ 0) : Ct Tryz.prog 116 [aZ x, aZ y] (.tup [zZ (x.tdiv y), zZ (x.tmod y), aI 0]) :=
  ct2 Tryz.func116 rfl rfl rfl fun w u v h k => (divide_Trunc u v x y w h.int k.int (by omega) (by omega) h0 (.inl hy)).mono (by
    rintro e w' ⟨p, q, rfl, h1, h2, _, hb⟩
    exact ⟨_, rfl, fun G β => tup_ok (vs := [_, _, _]) ⟨ok_of_rawV h1.rawV, ok_of_rawV h2.rawV, rfl, trivial⟩, hb⟩)
theorem ct_TruncN (m n : Nat) (hx : lc m ≤ 90) (hy : lc n ≤ 90) (h0 : n ≠ 0) : Ct Tryz.prog 116 [aZ (m : Int), aZ (n : Int)] (.tup [zZ ((m / n : Nat) : Int), zZ ((m % n : Nat) : Int), aI 0]) :=
  ct_Trunc (m : Int) (n : Int) (by rw [Int.natAbs_natCast]; omega) (by rw [Int.natAbs_natCast]; omega) (by omega)
theorem ct_Floor (x y : Int) (hx : lc x.natAbs ≤ 1200) (hy : lc y.natAbs ≤ 1200) (h0 : y ≠ 0) : Ct Tryz.prog 75 [aZ x, aZ y] (.tup [zZ (x.fdiv y), zZ (x.fmod y), aI 0]) :=
  ct2 Tryz.func75 rfl rfl rfl fun w u v h k => (divide_Floor u v x y w h.int k.int (by omega) (by omega) h0 (.inl hy)).mono (by
    rintro e w' ⟨p, q, rfl, h1, h2, _, hb⟩
    exact ⟨_, rfl, fun G β => tup_ok (vs := [_, _, _]) ⟨ok_of_rawV h1.rawV, ok_of_rawV h2.rawV, rfl, trivial⟩, hb⟩)
theorem ct_Exact (x y : Int) (hx : lc x.natAbs ≤ 1200) (hy : lc y.natAbs ≤ 1200) (h0 : y ≠ 0) : Ct Tryz.prog 107 [aZ x, aZ y] (.tup [aInt (if x.tmod y = 0 then rawOf (x.tdiv y) else (false, [])), aB (decide (x.tmod y = 0)), aI 0]) :=
  ct2 Tryz.func107 rfl rfl rfl fun w u v h k => (divide_Exact u v x y w h.int k.int (by omega) (by omega) h0 (.inl hy)).mono (by
    rintro e w' ⟨p, rfl, h1, hb⟩
    exact ⟨_, rfl, fun G β => tup_ok (vs := [_, _, _]) ⟨ok_of_rawV h1.rawV, rfl, rfl, trivial⟩, hb⟩)
theorem ct_Exact0 (x y : Int) (hx : lc x.natAbs ≤ 1200) (hy : lc y.natAbs ≤ 1200) (h0 : y ≠ 0) (hm : x.tmod y = 0) : Ct Tryz.prog 107 [aZ x, aZ y] (.tup [zZ (x.tdiv y), aB true, aI 0]) := by
  have h := ct_Exact x y hx hy h0
  rwa [if_pos hm, decide_eq_true hm] at h
theorem ct_Mod (x y : Int) (hx : lc x.natAbs ≤ 1200) (hy : lc y.natAbs ≤ 1200) (h0 : y ≠ 0) : Ct Tryz.prog 49 [aZ x, aZ y] (.tup [aInt (modR x y), aI (modE y)]) :=
  ct2 Tryz.func49 rfl rfl rfl fun w u v h k => (divide_Mod u v x y w h.int k.int (by omega) (by omega) h0 (.inl hy)).mono (by
    rintro e w' ⟨p, rfl, h1, hb⟩
    exact ⟨_, rfl, fun G β => tup_ok (vs := [_, _]) ⟨ok_of_rawV h1.rawV, rfl, trivial⟩, hb⟩)
theorem ct_ModP (x y : Int) (hx : lc x.natAbs ≤ 1200) (hy : lc y.natAbs ≤ 1200) (h0 : 0 < y) : Ct Tryz.prog 49 [aZ x, aZ y] (.tup [zZ (x % y), aI 0]) := by
  have h := ct_Mod x y hx hy (by omega)
  have e1 : modR x y = rawOf (x % y) := by unfold modR; rw [if_neg (by omega), Int.fmod_eq_emod_of_nonneg _ (by omega)]
  have e2 : modE y = 0 := by unfold modE; rw [if_neg (by omega)]
  rwa [e1, e2] at h
theorem wrap_succ {k : Nat} (h : k ≤ 1000000000000) : IntKind.i64.wrap ((k : Int) + 1) = ((k + 1 : Nat) : Int) := by
  have h1 : ((k : Int) + 1) % (2 ^ IntKind.i64.bits : Int) = (k : Int) + 1 := by
    rw [show (2 ^ IntKind.i64.bits : Int) = 18446744073709551616 from rfl]
    exact Int.emod_eq_of_lt (by omega) (by omega)
  have h2 : ¬ ((k : Int) + 1 ≥ (2 ^ (IntKind.i64.bits - 1) : Int)) := by
    rw [show (2 ^ (IntKind.i64.bits - 1) : Int) = 9223372036854775808 from rfl]
    omega
  unfold IntKind.wrap
  simp only [h1, decide_eq_false h2, Bool.and_false, Bool.false_eq_true, if_false]
  omega
theorem ct_right (xs : List Raw) (hl : xs.length ≤ 1000) : Ct Tryz.prog 89 [.val (.one (.st (polyP xs)))] (.val (aB (xs.all rightInt))) := by
  refine ct_of_wp [.tmp 2] [(0, .val (.one (.st (polyP xs))))] 15 Tryz.func89 rfl rfl rfl rfl rfl rfl rfl rfl ?_
  intro G0 w0
  repeat first | refine Wp_seq ?_ | refine Wp_region tm_mixed ?_ | refine AW_move rfl rfl ?_ | refine AW_assign rfl rfl ?_ | refine AW_nil (fun (h : false = true) => by cases h) ?_
  refine AW_quiet rfl (q_lenPoly rfl rfl tu_nums) ?_
  repeat first | refine AW_move rfl rfl ?_ | refine AW_nil (fun (h : false = true) => by cases h) ?_ | refine Wp_block ?_
  refine Wp_loop (fun k : Nat => ⟨[(5, .val (.one (.st (polyP xs)))), (6, .val (aI (xs.length : Int))), (7, .val (aI (k : Int)))], [], 0⟩) (fun k => k ≤ xs.length ∧ (xs.take k).all rightInt = true) (fun k => xs.length - k) 0 ⟨by omega, by simp⟩ (le_of ⟨rfl, rfl, rfl, trivial⟩ trivial rfl) ?_
  rintro k ⟨hk, hall⟩
  repeat first | refine Wp_seq ?_ | refine Wp_region tm_mixed ?_
  refine AW_quiet rfl (q_lt rfl rfl) ?_
  repeat first | refine Wp_seq ?_ | refine AW_nil (fun (h : false = true) => by cases h) ?_
  refine Wp_cond rfl (fun hc => ?_) (fun hc => ?_)
  · have hlt : k < xs.length := by simpa using hc
    obtain ⟨x, hx⟩ : ∃ x, xs[k]? = some x := ⟨_, List.getElem?_eq_getElem hlt⟩
    have hx' : xs.getD k (false, []) = x := by simp [List.getD_eq_getElem?_getD, hx]
    repeat first | refine Wp_seq ?_ | refine Wp_region tm_mixed ?_ | refine Wp_block ?_ | refine Wp_skip ?_
    refine AW_quiet rfl (q_polyAt rfl rfl hx tu_nums ts_num) ?_
    refine AW_quiet rfl (q_loadP rfl ty_num) ?_
    repeat first | refine Wp_seq ?_ | refine Wp_region tm_mixed ?_ | refine AW_load rfl ty_num rfl rfl rfl rfl ?_ | refine AW_store ty_num rfl rfl rfl rfl rfl rfl rfl ?_ | refine AW_alloc rfl tz_num ?_ | refine AW_not rfl rfl ?_ | refine AW_call rfl rfl (by first | exact ct_Right _) ?_ | refine AW_nil (fun (h : false = true) => by cases h) ?_
    refine Wp_cond rfl (fun hc => ?_) (fun hc => ?_)
    · repeat first | refine Wp_seq ?_ | refine Wp_region tm_mixed ?_ | refine AW_assign rfl rfl ?_ | refine AW_nil (fun (h : false = true) => by cases h) ?_ | refine Wp_ret ?_
      refine ⟨.inr rfl, _, .tmp _ _ _ _ rfl .nil, ?_⟩
      rw [not_all_of hlt (by rw [hx']; simpa using hc)]
      rfl
    · repeat first | refine Wp_region tm_mixed ?_ | refine Wp_skip ?_
      refine AW_quiet rfl (q_add rfl rfl) ?_
      repeat first | refine AW_move rfl rfl ?_ | refine AW_nil (fun (h : false = true) => by cases h) ?_
      refine ⟨k + 1, ⟨hlt, ?_⟩, le_of ⟨rfl, rfl, ?_, trivial⟩ trivial rfl, by omega⟩
      · rw [all_take_succ hlt, hall, hx']; simpa using hc
      · rw [← wrap_succ (by omega)]; rfl
  · have hge : k = xs.length := by have : ¬ k < xs.length := by simpa using hc
                                   omega
    repeat first | refine Wp_seq ?_ | refine Wp_region tm_mixed ?_ | refine AW_assign rfl rfl ?_ | refine AW_nil (fun (h : false = true) => by cases h) ?_ | refine Wp_exit ?_ | refine Wp_ret ?_
    refine ⟨.inr rfl, _, .tmp _ _ _ _ rfl .nil, ?_⟩
    rw [hge, List.take_of_length_le (Nat.le_refl _)] at hall
    rw [hall]
    rfl
end Go.Proofs.YtjbagikfogejnaaGreatDoor
/- Plain: the rows of the common divisor's run, and how often both stand in them. -/
namespace Go.Proofs.YtjbagikfogejnaaGreatDoor
/-- Two rows of the run of A and B. -/
structure GRow (A B : Nat) (whole : Bool) (r0 r1 : Nat) (x0 y0 x1 y1 : Int) : Prop where
  g : Nat.gcd r0 r1 = Nat.gcd A B
  m0 : r0 ≤ max A B
  m1 : r1 ≤ max A B
  bx0 : x0.natAbs ≤ max B 1
  by0 : y0.natAbs ≤ max A 1
  bx1 : x1.natAbs ≤ max B 1
  by1 : y1.natAbs ≤ max A 1
  made0 : whole = true → (A : Int) * x0 + B * y0 = r0
  made1 : whole = true → (A : Int) * x1 + B * y1 = r1
  sx : whole = true → x1.natAbs * r0 + x0.natAbs * r1 = B
  sy : whole = true → y1.natAbs * r0 + y0.natAbs * r1 = A
  turn : whole = true → (0 ≤ x0 ∧ x1 ≤ 0 ∧ y0 ≤ 0 ∧ 0 ≤ y1) ∨ (x0 ≤ 0 ∧ 0 ≤ x1 ∧ 0 ≤ y0 ∧ y1 ≤ 0)
theorem GRow.start (A B : Nat) (whole : Bool) : GRow A B whole A B 1 0 0 1 where
  g := rfl
  m0 := Nat.le_max_left _ _
  m1 := Nat.le_max_right _ _
  bx0 := Nat.le_max_right _ _
  by0 := Nat.zero_le _
  bx1 := Nat.zero_le _
  by1 := Nat.le_max_right _ _
  made0 := fun _ => by omega
  made1 := fun _ => by omega
  sx := fun _ => by simp
  sy := fun _ => by simp
  turn := fun _ => by omega
/-- A number less a multiple of one of the other sign: the sizes add. -/
theorem sizes_add {u v : Int} {q : Nat} (h : (0 ≤ u ∧ v ≤ 0) ∨ (u ≤ 0 ∧ 0 ≤ v)) : (u - (q : Int) * v).natAbs = u.natAbs + q * v.natAbs := by
  rcases h with ⟨h1, h2⟩ | ⟨h1, h2⟩
  · have h3 : 0 ≤ (q : Int) * (-v) := Int.mul_nonneg (by omega) (by omega)
    have h4 : (q : Int) * (-v) = ((q * v.natAbs : Nat) : Int) := by rw [Int.natCast_mul]; congr 1; omega
    rw [Int.mul_neg] at h3 h4
    omega
  · have h4 : (q : Int) * v = ((q * v.natAbs : Nat) : Int) := by rw [Int.natCast_mul]; congr 1; omega
    rw [h4]
    omega
theorem side_of {u v : Int} {q : Nat} (h : (0 ≤ u ∧ v ≤ 0)) : 0 ≤ u - (q : Int) * v := by
  have h3 : 0 ≤ (q : Int) * (-v) := Int.mul_nonneg (by omega) (by omega)
  rw [Int.mul_neg] at h3; omega
theorem side_of' {u v : Int} {q : Nat} (h : (u ≤ 0 ∧ 0 ≤ v)) : u - (q : Int) * v ≤ 0 := by
  have h3 : 0 ≤ (q : Int) * v := Int.mul_nonneg (by omega) (by omega)
  omega
theorem sum_step {a b r0 r1 q : Nat} {n : Nat} (hq : r0 = r1 * q + r0 % r1) (h : b * r0 + a * r1 = n) : (a + q * b) * r1 + b * (r0 % r1) = n := by
  obtain ⟨s, hs⟩ : ∃ s, r0 % r1 = s := ⟨_, rfl⟩
  rw [hs] at hq ⊢
  subst hq
  rw [Nat.add_mul, Nat.mul_add] at *
  rw [← h, Nat.mul_comm q b, Nat.mul_assoc, Nat.mul_comm q r1]
  omega
theorem made_step {A B x0 y0 x1 y1 : Int} {r0 r1 : Nat} (h0 : A * x0 + B * y0 = r0) (h1 : A * x1 + B * y1 = r1) : A * (x0 - ((r0 / r1 : Nat) : Int) * x1) + B * (y0 - ((r0 / r1 : Nat) : Int) * y1) = ((r0 % r1 : Nat) : Int) := by
  have hq : (r0 : Int) = r1 * ((r0 / r1 : Nat) : Int) + ((r0 % r1 : Nat) : Int) := by
    rw [← Int.natCast_mul, ← Int.natCast_add, Nat.div_add_mod]
  obtain ⟨q, hqq⟩ : ∃ q : Int, ((r0 / r1 : Nat) : Int) = q := ⟨_, rfl⟩
  rw [hqq] at hq ⊢
  have e : A * (x0 - q * x1) + B * (y0 - q * y1) = (A * x0 + B * y0) - (A * x1 + B * y1) * q := by
    rw [Int.mul_sub, Int.mul_sub, Int.add_mul, Int.mul_comm q x1, Int.mul_comm q y1, ← Int.mul_assoc, ← Int.mul_assoc]
    omega
  rw [e, h0, h1]
  omega
theorem small_of {n r k : Nat} (hr : 0 < r) (h : n * r ≤ k) : n ≤ max k 1 :=
  Nat.le_trans (Nat.le_trans (Nat.le_mul_of_pos_right n hr) h) (Nat.le_max_left _ _)
/-- The step: the rest, and each number less q times the next. -/
theorem GRow.step {A B : Nat} {whole : Bool} {r0 r1 : Nat} {x0 y0 x1 y1 : Int} (h : GRow A B whole r0 r1 x0 y0 x1 y1) (h1 : r1 ≠ 0) :
    GRow A B whole r1 (r0 % r1) x1 y1 (if whole = true then x0 - ((r0 / r1 : Nat) : Int) * x1 else 0) (if whole = true then y0 - ((r0 / r1 : Nat) : Int) * y1 else 0) := by
  have hq : r0 = r1 * (r0 / r1) + r0 % r1 := (Nat.div_add_mod r0 r1).symm
  have hlt : r0 % r1 < r1 := Nat.mod_lt _ (by omega)
  have hm := h.m1
  have hg : Nat.gcd r1 (r0 % r1) = Nat.gcd A B := by
    rw [← h.g, Nat.gcd_comm r1, ← Nat.gcd_rec, Nat.gcd_comm]
  by_cases hw : whole = true
  · rw [if_pos hw, if_pos hw]
    have ex : (x0 - ((r0 / r1 : Nat) : Int) * x1).natAbs = x0.natAbs + r0 / r1 * x1.natAbs := sizes_add (by have := h.turn hw; omega)
    have ey : (y0 - ((r0 / r1 : Nat) : Int) * y1).natAbs = y0.natAbs + r0 / r1 * y1.natAbs := sizes_add (by have := h.turn hw; omega)
    have hsx : (x0 - ((r0 / r1 : Nat) : Int) * x1).natAbs * r1 + x1.natAbs * (r0 % r1) = B := by rw [ex]; exact sum_step hq (h.sx hw)
    have hsy : (y0 - ((r0 / r1 : Nat) : Int) * y1).natAbs * r1 + y1.natAbs * (r0 % r1) = A := by rw [ey]; exact sum_step hq (h.sy hw)
    refine ⟨hg, hm, by omega, h.bx1, h.by1, small_of (by omega) (Nat.le_trans (Nat.le_add_right _ _) (Nat.le_of_eq hsx)), small_of (by omega) (Nat.le_trans (Nat.le_add_right _ _) (Nat.le_of_eq hsy)), h.made1, fun _ => made_step (h.made0 hw) (h.made1 hw), fun _ => hsx, fun _ => hsy, fun _ => ?_⟩
    rcases h.turn hw with ⟨a, b, c, d⟩ | ⟨a, b, c, d⟩
    · exact .inr ⟨b, side_of ⟨a, b⟩, d, side_of' ⟨c, d⟩⟩
    · exact .inl ⟨b, side_of' ⟨a, b⟩, d, side_of ⟨c, d⟩⟩
  · rw [if_neg hw, if_neg hw]
    exact ⟨hg, hm, by omega, h.bx1, h.by1, Nat.zero_le _, Nat.zero_le _, fun e => absurd e hw, fun e => absurd e hw, fun e => absurd e hw, fun e => absurd e hw, fun e => absurd e hw⟩
theorem lc_max {m n a k : Nat} (hm : lc m ≤ k) (hn : lc n ≤ k) (h : a ≤ max m n) : lc a ≤ k := by
  rcases Nat.le_total m n with h1 | h1
  · rw [Nat.max_eq_right h1] at h; exact Nat.le_trans (lc_mono h) hn
  · rw [Nat.max_eq_left h1] at h; exact Nat.le_trans (lc_mono h) hm
theorem GRow.small {A B : Nat} {whole : Bool} {r0 r1 : Nat} {x0 y0 x1 y1 : Int} (h : GRow A B whole r0 r1 x0 y0 x1 y1) (ha : lc A ≤ 90) (hb : lc B ≤ 90) :
    lc r0 ≤ 90 ∧ lc r1 ≤ 90 ∧ lc x0.natAbs ≤ 90 ∧ lc y0.natAbs ≤ 90 ∧ lc x1.natAbs ≤ 90 ∧ lc y1.natAbs ≤ 90 := by
  have h1 : lc 1 ≤ 90 := by
    have h2 : lc 1 ≤ 1 := lc_le.2 (by rw [Nat.pow_one, W64_eq]; decide)
    omega
  exact ⟨lc_max ha hb h.m0, lc_max ha hb h.m1, lc_max hb h1 h.bx0, lc_max ha h1 h.by0, lc_max hb h1 h.bx1, lc_max ha h1 h.by1⟩
theorem GRow.told {A B : Nat} {whole : Bool} {r0 : Nat} {x0 y0 x1 y1 : Int} (h : GRow A B whole r0 0 x0 y0 x1 y1) : r0 = Nat.gcd A B := by
  rw [← h.g, Nat.gcd_zero_right]
end Go.Proofs.YtjbagikfogejnaaGreatDoor
/- The package gcd, by the abstract machine: run. -/
namespace Go.Proofs.YtjbagikfogejnaaGreatDoor
open Go.RowKit Go.Deep
/-- The run from rest to rest. -/
def euc (whole : Bool) (n0 n1 : Nat) (x0 y0 x1 y1 : Int) : Nat × Int × Int :=
  if _h : n1 = 0 then (n0, x0, y0)
  else euc whole n1 (n0 % n1) x1 y1 (if whole = true then x0 - ((n0 / n1 : Nat) : Int) * x1 else 0) (if whole = true then y0 - ((n0 / n1 : Nat) : Int) * y1 else 0)
termination_by n1
decreasing_by exact Nat.mod_lt _ (Nat.pos_of_ne_zero _h)
theorem euc_zero (whole : Bool) (n0 : Nat) (x0 y0 x1 y1 : Int) : euc whole n0 0 x0 y0 x1 y1 = (n0, x0, y0) := by rw [euc, dif_pos rfl]
theorem euc_step (whole : Bool) (n0 n1 : Nat) (x0 y0 x1 y1 : Int) (h : n1 ≠ 0) : euc whole n0 n1 x0 y0 x1 y1 =
    euc whole n1 (n0 % n1) x1 y1 (if whole = true then x0 - ((n0 / n1 : Nat) : Int) * x1 else 0) (if whole = true then y0 - ((n0 / n1 : Nat) : Int) * y1 else 0) := by rw [euc, dif_neg h]
def eucR (whole : Bool) (a b : Nat) : Nat × Int × Int := euc whole a b 1 0 0 1
theorem rawOf_zero : rawOf 0 = (false, []) := by unfold rawOf; rw [show (0 : Int).natAbs = 0 from rfl, limbs_zero]; rfl
theorem rawOf_len {n : Nat} : (rawOf (n : Int)).2.length = 0 ↔ n = 0 := by
  show (limbs (n : Int).natAbs).length = 0 ↔ n = 0
  rw [Int.natAbs_natCast, List.length_eq_zero_iff]
  exact limbs_eq_nil
structure GS where
  (n0 n1 : Nat) (x0 y0 x1 y1 : Int) (q0 q1 q2 q3 q4 q5 : Raw)
structure GSok (a b : Nat) (whole : Bool) (p : GS) : Prop where
  h0 : p.q0 = rawOf (p.n0 : Int)
  h1 : p.q1 = rawOf p.x0
  h2 : p.q2 = rawOf p.y0
  h3 : p.q3 = rawOf (p.n1 : Int)
  h4 : p.q4 = rawOf p.x1
  h5 : p.q5 = rawOf p.y1
  g : GRow a b whole p.n0 p.n1 p.x0 p.y0 p.x1 p.y1
  e : euc whole p.n0 p.n1 p.x0 p.y0 p.x1 p.y1 = eucR whole a b
/-- A row of three numbers. -/
abbrev cell6 (x y z : Raw) : List AC := [.b x.1, .st (magP x.2), .b y.1, .st (magP y.2), .b z.1, .st (magP z.2)]
set_option maxHeartbeats 1000000 in
set_option maxRecDepth 100000 in
theorem ct_run (a b : Int) (whole : Bool) (ha : lc a.natAbs ≤ 90) (hb : lc b.natAbs ≤ 90) :
    Ct Tryz.prog 90 [aZ a, aZ b, .val (aB whole)] (.val (.agg (cell6 (rawOf ((eucR whole a.natAbs b.natAbs).1 : Int)) (rawOf (eucR whole a.natAbs b.natAbs).2.1) (rawOf (eucR whole a.natAbs b.natAbs).2.2)))) := by
  have hla : lc a.natAbs ≤ 1099511627776 := by omega
  have hlb : lc b.natAbs ≤ 1099511627776 := by omega
  refine ct_of_wp [.cell 6 108] [(0, aZ a), (1, aZ b), (2, .val (aB whole))] 82 Tryz.func90 rfl rfl rfl rfl rfl rfl rfl rfl ?_
  intro G0 w0
  repeat first | refine Wp_seq ?_ | refine Wp_region tm_mixed ?_ | refine AW_load rfl ty_num rfl rfl rfl rfl ?_ | refine AW_store ty_num rfl rfl rfl rfl rfl rfl rfl ?_ | refine AW_store ty_rows rfl rfl rfl rfl rfl rfl rfl ?_ | refine AW_alloc rfl tz_row ?_ | refine AW_alloc rfl tz_rows ?_ | refine AW_box rfl rfl (row := true) rfl (fun h => by cases h) rfl ?_ | refine AW_build rfl tb_row rfl ?_ | refine AW_build rfl tb_rows rfl ?_ | refine AW_call rfl rfl (by first | exact ct_gsize _ (by assumption) | exact ct_limbOf 1 (by decide) (by decide) | exact ct_gzero _ | exact ct_Mul0 _ _ (by omega) (by omega) (by omega) | exact ct_Sub0 _ _ (by omega) (by assumption) (by assumption) | exact ct_TruncN _ _ (by assumption) (by assumption) (by assumption)) ?_ | refine AW_fieldAddr rfl tf_row1 rfl rfl ?_ | refine AW_arrayAt rfl Tryz.underlying144 ts_row rfl rfl rfl rfl ?_ | refine AW_arrayAt rfl Tryz.underlying106 ts_num rfl rfl rfl rfl ?_ | refine AW_nil (fun (h : false = true) => by cases h) ?_ | refine AW_nil (fun (_ : true = true) => by kernel_rfl) ?_ | refine Wp_block ?_
  refine Wp_loop (fun p : GS => ⟨[(7, .val (.one (.ptr 3 0))), (6, .val (.one (.ptr 2 0))), (2, .val (aB whole))],
    [(3, 144, [.b p.q0.1, .st (magP p.q0.2), .b p.q1.1, .st (magP p.q1.2), .b p.q2.1, .st (magP p.q2.2), .b p.q3.1, .st (magP p.q3.2), .b p.q4.1, .st (magP p.q4.2), .b p.q5.1, .st (magP p.q5.2)]),
     (2, 108, [.b false, .st (magP []), .b false, .st (magP []), .b false, .st (magP [])])], 4⟩)
    (GSok a.natAbs b.natAbs whole) (fun p => p.n1) ⟨a.natAbs, b.natAbs, 1, 0, 0, 1, rawOf (a.natAbs : Int), rawOf 1, (false, []), rawOf (b.natAbs : Int), (false, []), rawOf 1⟩
    ⟨rfl, rfl, rawOf_zero.symm, rfl, rawOf_zero.symm, rfl, GRow.start _ _ _, rfl⟩ (le_of ⟨rfl, rfl, rfl, trivial⟩ ⟨rfl, rfl, trivial⟩ rfl) ?_
  rintro ⟨n0, n1, x0, y0, x1, y1, q0, q1, q2, q3, q4, q5⟩ ⟨h0, h1, h2, h3, h4, h5, hg, he⟩
  dsimp only at h0 h1 h2 h3 h4 h5 hg he
  subst h0 h1 h2 h3 h4 h5
  obtain ⟨s0, s1, s2, s3, s4, s5⟩ := hg.small ha hb
  dsimp only
  repeat first | refine Wp_seq ?_ | refine Wp_region tm_mixed ?_ | refine AW_load rfl ty_num rfl rfl rfl rfl ?_ | refine AW_not rfl rfl ?_ | refine AW_call rfl rfl (by first | exact ct_gsize _ (by assumption) | exact ct_limbOf 1 (by decide) (by decide) | exact ct_gzero _ | exact ct_Mul0 _ _ (by omega) (by omega) (by omega) | exact ct_Sub0 _ _ (by omega) (by assumption) (by assumption) | exact ct_TruncN _ _ (by assumption) (by assumption) (by assumption)) ?_ | refine AW_fieldAddr rfl tf_row0 rfl rfl ?_ | refine AW_arrayAt rfl Tryz.underlying144 ts_row rfl rfl rfl rfl ?_ | refine AW_nil (fun (h : false = true) => by cases h) ?_
  refine Wp_cond rfl (fun hc => ?_) (fun hc => ?_)
  · have hn : n1 ≠ 0 := fun e => by rw [decide_eq_true (rawOf_len.2 e)] at hc; cases hc
    repeat first | refine Wp_seq ?_ | refine Wp_region tm_mixed ?_ | refine AW_move rfl rfl ?_ | refine AW_assign rfl rfl ?_ | refine AW_load rfl ty_num rfl rfl rfl rfl ?_ | refine AW_store ty_num rfl rfl rfl rfl rfl rfl rfl ?_ | refine AW_store ty_row rfl rfl rfl rfl rfl rfl rfl ?_ | refine AW_extract rfl rfl rfl ?_ | refine AW_alloc rfl tz_num ?_ | refine AW_alloc rfl tz_row ?_ | refine AW_build rfl tb_row rfl ?_ | refine AW_call rfl rfl (by first | exact ct_gsize _ (by assumption) | exact ct_limbOf 1 (by decide) (by decide) | exact ct_gzero _ | exact ct_Mul0 _ _ (by omega) (by omega) (by omega) | exact ct_Sub0 _ _ (by omega) (by assumption) (by assumption) | exact ct_TruncN _ _ (by assumption) (by assumption) (by assumption)) ?_ | refine AW_fieldAddr rfl tf_row0 rfl rfl ?_ | refine AW_arrayAt rfl Tryz.underlying144 ts_row rfl rfl rfl rfl ?_ | refine AW_nil (fun (h : false = true) => by cases h) ?_ | refine Wp_block ?_ | refine Wp_skip ?_
    obtain ⟨nx, hnx⟩ : ∃ nx : Int, (if whole = true then x0 - ((n0 / n1 : Nat) : Int) * x1 else 0) = nx := ⟨_, rfl⟩
    obtain ⟨ny, hny⟩ : ∃ ny : Int, (if whole = true then y0 - ((n0 / n1 : Nat) : Int) * y1 else 0) = ny := ⟨_, rfl⟩
    have hg2 := hg.step hn
    rw [euc_step _ _ _ _ _ _ _ hn] at he
    rw [hnx, hny] at hg2 he
    have sq : lc ((n0 / n1 : Nat) : Int).natAbs ≤ 90 := by rw [Int.natAbs_natCast]; exact Nat.le_trans (lc_mono (Nat.div_le_self _ _)) s0
    obtain ⟨-, -, -, -, t4, t5⟩ := hg2.small ha hb
    have k1 : lc (((n0 / n1 : Nat) : Int) * x1).natAbs ≤ 4096 := by rw [Int.natAbs_mul]; have := lc_mul ((n0 / n1 : Nat) : Int).natAbs x1.natAbs; omega
    have k3 : lc (((n0 / n1 : Nat) : Int) * y1).natAbs ≤ 4096 := by rw [Int.natAbs_mul]; have := lc_mul ((n0 / n1 : Nat) : Int).natAbs y1.natAbs; omega
    refine Wp_loop (fun p : Nat × Raw × Raw => ⟨[(48, .val (aI (p.1 : Int))), (11, .val (.one (.ptr 6 0))), (9, .val (.one (.ptr 5 0))), (8, .val (.one (.ptr 4 0))), (7, .val (.one (.ptr 3 0))), (6, .val (.one (.ptr 2 0))), (2, .val (aB whole))],
      [(6, 108, [.b (rawOf ((n0 % n1 : Nat) : Int)).1, .st (magP (rawOf ((n0 % n1 : Nat) : Int)).2), .b p.2.1.1, .st (magP p.2.1.2), .b p.2.2.1, .st (magP p.2.2.2)]),
       (4, 24, [.b (rawOf ((n0 / n1 : Nat) : Int)).1, .st (magP (rawOf ((n0 / n1 : Nat) : Int)).2)]),
       (3, 144, [.b (rawOf (n0 : Int)).1, .st (magP (rawOf (n0 : Int)).2), .b (rawOf x0).1, .st (magP (rawOf x0).2), .b (rawOf y0).1, .st (magP (rawOf y0).2), .b (rawOf (n1 : Int)).1, .st (magP (rawOf (n1 : Int)).2), .b (rawOf x1).1, .st (magP (rawOf x1).2), .b (rawOf y1).1, .st (magP (rawOf y1).2)]),
       (2, 108, [.b false, .st (magP []), .b false, .st (magP []), .b false, .st (magP [])])], 7⟩)
      (fun p => p.1 ≤ 2 ∧ (1 ≤ p.1 → p.2.1 = rawOf nx) ∧ (2 ≤ p.1 → p.2.2 = rawOf ny) ∧ (p.1 = 0 → p.2.1 = (false, [])) ∧ (p.1 ≤ 1 → p.2.2 = (false, []))) (fun p => 2 - p.1) (0, (false, []), (false, []))
      ⟨by omega, by omega, by omega, fun _ => rfl, fun _ => rfl⟩ (le_of ⟨rfl, rfl, rfl, rfl, rfl, rfl, rfl, trivial⟩ ⟨rfl, rfl, rfl, rfl, trivial⟩ rfl) ?_
    rintro ⟨k, u, v⟩ ⟨hk, hu1, hv2, hu0, hv1⟩
    dsimp only at hk hu1 hv2 hu0 hv1 ⊢
    obtain rfl | rfl | rfl : k = 0 ∨ k = 1 ∨ k = 2 := by omega
    · obtain rfl := hu0 rfl
      obtain rfl := hv1 (by omega)
      have hx : nx = if whole = true then x0 - ((n0 / n1 : Nat) : Int) * x1 else 0 := hnx.symm
      repeat first | refine Wp_seq ?_ | refine Wp_region tm_mixed ?_
      refine AW_quiet rfl (q_lt rfl rfl) ?_
      repeat first | refine Wp_seq ?_ | refine AW_nil (fun (h : false = true) => by cases h) ?_
      refine Wp_condT rfl ?_
      repeat first | refine Wp_seq ?_ | refine Wp_region tm_mixed ?_ | refine AW_move rfl rfl ?_ | refine AW_assign rfl rfl ?_ | refine AW_nil (fun (h : false = true) => by cases h) ?_ | refine Wp_block ?_ | refine Wp_skip ?_
      refine Wp_cond rfl (fun hw => ?_) (fun hw => ?_)
      · subst hw
        rw [if_pos rfl] at hx
        have k2 : lc (x0 - ((n0 / n1 : Nat) : Int) * x1).natAbs ≤ 4096 := by rw [← hx]; exact Nat.le_trans t4 (by decide)
        repeat first | refine Wp_seq ?_ | refine Wp_region tm_mixed ?_ | refine AW_move rfl rfl ?_ | refine AW_assign rfl rfl ?_ | refine AW_load rfl ty_num rfl rfl rfl rfl ?_ | refine AW_store ty_num rfl rfl rfl rfl rfl rfl rfl ?_ | refine AW_extract rfl rfl rfl ?_ | refine AW_alloc rfl tz_num ?_ | refine AW_call rfl rfl (by first | exact ct_gsize _ (by assumption) | exact ct_limbOf 1 (by decide) (by decide) | exact ct_gzero _ | exact ct_Mul0 _ _ (by omega) (by omega) (by omega) | exact ct_Sub0 _ _ (by omega) (by assumption) (by assumption) | exact ct_TruncN _ _ (by assumption) (by assumption) (by assumption)) ?_ | refine AW_fieldAddr rfl tf_row1 rfl rfl ?_ | refine AW_arrayAt rfl Tryz.underlying144 ts_row rfl rfl rfl rfl ?_ | refine AW_arrayAt rfl Tryz.underlying106 ts_num rfl rfl rfl rfl ?_ | refine AW_nil (fun (_ : true = true) => by kernel_rfl) ?_
        refine AW_quiet rfl (q_add rfl rfl) ?_
        repeat first | refine AW_move rfl rfl ?_ | refine AW_nil (fun (h : false = true) => by cases h) ?_
        exact ⟨(1, rawOf nx, (false, [])), ⟨by omega, fun _ => rfl, by omega, by omega, fun _ => rfl⟩, le_of ⟨rfl, rfl, rfl, rfl, rfl, rfl, rfl, trivial⟩ ⟨by rw [hx]; rfl, rfl, rfl, rfl, trivial⟩ rfl, by omega⟩
      · subst hw
        rw [if_neg (by decide)] at hx
        subst hx
        repeat first | refine Wp_region tm_mixed ?_ | refine Wp_skip ?_
        refine AW_quiet rfl (q_add rfl rfl) ?_
        repeat first | refine AW_move rfl rfl ?_ | refine AW_nil (fun (h : false = true) => by cases h) ?_
        exact ⟨(1, (false, []), (false, [])), ⟨by omega, fun _ => rawOf_zero.symm, by omega, by omega, fun _ => rfl⟩, le_of ⟨rfl, rfl, rfl, rfl, rfl, rfl, rfl, trivial⟩ ⟨rfl, rfl, rfl, rfl, trivial⟩ rfl, by omega⟩
    · obtain rfl := hu1 (by omega)
      obtain rfl := hv1 (by omega)
      have hx : ny = if whole = true then y0 - ((n0 / n1 : Nat) : Int) * y1 else 0 := hny.symm
      repeat first | refine Wp_seq ?_ | refine Wp_region tm_mixed ?_
      refine AW_quiet rfl (q_lt rfl rfl) ?_
      repeat first | refine Wp_seq ?_ | refine AW_nil (fun (h : false = true) => by cases h) ?_
      refine Wp_condT rfl ?_
      repeat first | refine Wp_seq ?_ | refine Wp_region tm_mixed ?_ | refine AW_move rfl rfl ?_ | refine AW_assign rfl rfl ?_ | refine AW_nil (fun (h : false = true) => by cases h) ?_ | refine Wp_block ?_ | refine Wp_skip ?_
      refine Wp_cond rfl (fun hw => ?_) (fun hw => ?_)
      · subst hw
        rw [if_pos rfl] at hx
        have k2 : lc (y0 - ((n0 / n1 : Nat) : Int) * y1).natAbs ≤ 4096 := by rw [← hx]; exact Nat.le_trans t5 (by decide)
        repeat first | refine Wp_seq ?_ | refine Wp_region tm_mixed ?_ | refine AW_move rfl rfl ?_ | refine AW_assign rfl rfl ?_ | refine AW_load rfl ty_num rfl rfl rfl rfl ?_ | refine AW_store ty_num rfl rfl rfl rfl rfl rfl rfl ?_ | refine AW_extract rfl rfl rfl ?_ | refine AW_alloc rfl tz_num ?_ | refine AW_call rfl rfl (by first | exact ct_gsize _ (by assumption) | exact ct_limbOf 1 (by decide) (by decide) | exact ct_gzero _ | exact ct_Mul0 _ _ (by omega) (by omega) (by omega) | exact ct_Sub0 _ _ (by omega) (by assumption) (by assumption) | exact ct_TruncN _ _ (by assumption) (by assumption) (by assumption)) ?_ | refine AW_fieldAddr rfl tf_row1 rfl rfl ?_ | refine AW_arrayAt rfl Tryz.underlying144 ts_row rfl rfl rfl rfl ?_ | refine AW_arrayAt rfl Tryz.underlying106 ts_num rfl rfl rfl rfl ?_ | refine AW_nil (fun (_ : true = true) => by kernel_rfl) ?_
        refine AW_quiet rfl (q_add rfl rfl) ?_
        repeat first | refine AW_move rfl rfl ?_ | refine AW_nil (fun (h : false = true) => by cases h) ?_
        exact ⟨(2, rawOf nx, rawOf ny), ⟨by omega, fun _ => rfl, fun _ => rfl, by omega, by omega⟩, le_of ⟨rfl, rfl, rfl, rfl, rfl, rfl, rfl, trivial⟩ ⟨by rw [hx]; rfl, rfl, rfl, rfl, trivial⟩ rfl, by omega⟩
      · subst hw
        rw [if_neg (by decide)] at hx
        subst hx
        repeat first | refine Wp_region tm_mixed ?_ | refine Wp_skip ?_
        refine AW_quiet rfl (q_add rfl rfl) ?_
        repeat first | refine AW_move rfl rfl ?_ | refine AW_nil (fun (h : false = true) => by cases h) ?_
        exact ⟨(2, rawOf nx, (false, [])), ⟨by omega, fun _ => rfl, fun _ => rawOf_zero.symm, by omega, by omega⟩, le_of ⟨rfl, rfl, rfl, rfl, rfl, rfl, rfl, trivial⟩ ⟨rfl, rfl, rfl, rfl, trivial⟩ rfl, by omega⟩
    · obtain rfl := hu1 (by omega)
      obtain rfl := hv2 (by omega)
      repeat first | refine Wp_seq ?_ | refine Wp_region tm_mixed ?_
      refine AW_quiet rfl (q_lt rfl rfl) ?_
      repeat first | refine Wp_seq ?_ | refine AW_nil (fun (h : false = true) => by cases h) ?_
      refine Wp_condF rfl ?_
      repeat first | refine Wp_region tm_mixed ?_ | refine AW_load rfl ty_row rfl rfl rfl rfl ?_ | refine AW_store ty_rows rfl rfl rfl rfl rfl rfl rfl ?_ | refine AW_build rfl tb_rows rfl ?_ | refine AW_arrayAt rfl Tryz.underlying144 ts_row rfl rfl rfl rfl ?_ | refine AW_nil (fun (h : false = true) => by cases h) ?_ | refine Wp_exit ?_
      exact ⟨⟨n1, n0 % n1, x1, y1, nx, ny, rawOf (n1 : Int), rawOf x1, rawOf y1, rawOf ((n0 % n1 : Nat) : Int), rawOf nx, rawOf ny⟩, ⟨rfl, rfl, rfl, rfl, rfl, rfl, hg2, he⟩, le_of ⟨rfl, rfl, rfl, trivial⟩ ⟨rfl, rfl, trivial⟩ rfl, Nat.mod_lt _ (Nat.pos_of_ne_zero hn)⟩
  · have hn : n1 = 0 := by
      refine rawOf_len.1 (Decidable.byContradiction fun h => ?_)
      rw [decide_eq_false h] at hc
      cases hc
    subst hn
    rw [euc_zero] at he
    rw [← he]
    repeat first | refine Wp_seq ?_ | refine Wp_region tm_mixed ?_ | refine AW_load rfl ty_row rfl rfl rfl rfl ?_ | refine AW_store ty_row rfl rfl rfl rfl rfl rfl rfl ?_ | refine AW_arrayAt rfl Tryz.underlying144 ts_row rfl rfl rfl rfl ?_ | refine AW_nil (fun (h : false = true) => by cases h) ?_ | refine Wp_exit ?_ | refine Wp_ret ?_
    exact ⟨.inr rfl, _, .cell _ _ _ _ _ _ _ _ _ _ _ ty_row rfl rfl rfl .nil, rfl⟩
end Go.Proofs.YtjbagikfogejnaaGreatDoor
/- The package gcd, by the abstract machine: Of, Lcm. -/
namespace Go.Proofs.YtjbagikfogejnaaGreatDoor
open Go.RowKit Go.Deep
theorem right_raw {z : Int} (h : lc z.natAbs ≤ 4096) : rightInt (rawOf z) = true := right_of h
theorem euc_gcd (whole : Bool) (n0 n1 : Nat) (x0 y0 x1 y1 : Int) : (euc whole n0 n1 x0 y0 x1 y1).1 = Nat.gcd n0 n1 := by
  induction n1 using Nat.strongRecOn generalizing n0 x0 y0 x1 y1 with
  | _ n1 ih =>
    by_cases h : n1 = 0
    · subst h; rw [euc_zero, Nat.gcd_zero_right]
    · rw [euc_step _ _ _ _ _ _ _ h, ih _ (Nat.mod_lt _ (Nat.pos_of_ne_zero h)), Nat.gcd_comm n1, ← Nat.gcd_rec, Nat.gcd_comm]
theorem eucR_gcd (whole : Bool) (a b : Nat) : (eucR whole a b).1 = Nat.gcd a b := euc_gcd _ _ _ _ _ _ _
theorem euc_row {A B : Nat} {whole : Bool} (n0 n1 : Nat) (x0 y0 x1 y1 : Int) (h : GRow A B whole n0 n1 x0 y0 x1 y1) : ∃ x2 y2, GRow A B whole (euc whole n0 n1 x0 y0 x1 y1).1 0 (euc whole n0 n1 x0 y0 x1 y1).2.1 (euc whole n0 n1 x0 y0 x1 y1).2.2 x2 y2 := by
  induction n1 using Nat.strongRecOn generalizing n0 x0 y0 x1 y1 with
  | _ n1 ih =>
    by_cases hn : n1 = 0
    · subst hn; rw [euc_zero]; exact ⟨x1, y1, h⟩
    · rw [euc_step _ _ _ _ _ _ _ hn]
      exact ih _ (Nat.mod_lt _ (Nat.pos_of_ne_zero hn)) _ _ _ _ _ (h.step hn)
theorem eucR_row (whole : Bool) (a b : Nat) : ∃ x2 y2, GRow a b whole (eucR whole a b).1 0 (eucR whole a b).2.1 (eucR whole a b).2.2 x2 y2 := euc_row _ _ _ _ _ _ (GRow.start a b whole)
theorem gcd_small {a b : Int} {k : Nat} (ha : lc a.natAbs ≤ k) (hb : lc b.natAbs ≤ k) : lc (Nat.gcd a.natAbs b.natAbs) ≤ k := by
  by_cases h : a.natAbs = 0
  · rw [h, Nat.gcd_zero_left]; exact hb
  · exact Nat.le_trans (lc_mono (Nat.le_of_dvd (by omega) (Nat.gcd_dvd_left _ _))) ha
abbrev gcdZ (a b : Int) : Int := (Nat.gcd a.natAbs b.natAbs : Nat)
set_option maxRecDepth 100000 in
theorem ct_gOf (a b : Int) (ha : lc a.natAbs ≤ 90) (hb : lc b.natAbs ≤ 90) : Ct Tryz.prog 41 [aZ a, aZ b] (.tup [zZ (gcdZ a b), aI 0]) := by
  refine ct_of_wp [.cell 4 24, .tmp 5] [(0, aZ a), (1, aZ b)] 16 Tryz.func41 rfl rfl rfl rfl rfl rfl rfl rfl ?_
  intro G0 w0
  repeat first | refine Wp_seq ?_ | refine Wp_region tm_mixed ?_ | refine AW_assign rfl rfl ?_ | refine AW_load rfl ty_num rfl rfl rfl rfl ?_ | refine AW_alloc rfl tz_num ?_ | refine AW_box rfl rfl (row := true) rfl (fun h => by cases h) rfl ?_ | refine AW_not rfl rfl ?_ | refine AW_call rfl rfl (by first | exact ct_right _ (Nat.le_of_ble_eq_true rfl) | exact ct_run _ _ _ ha hb) ?_ | refine AW_ints rfl tu_nums ti_num ti_size ti_zero rfl rfl rfl (by first | exact .cons _ _ _ _ _ rfl (.cons _ _ _ _ _ rfl (.nil _)) | exact .cons _ _ _ _ _ rfl (.cons _ _ _ _ _ rfl (.cons _ _ _ _ _ rfl (.cons _ _ _ _ _ rfl (.nil _)))) | exact .cons _ _ _ _ _ rfl (.cons _ _ _ _ _ rfl (.cons _ _ _ _ _ rfl (.nil _))) | exact .cons _ _ _ _ _ rfl (.cons _ _ _ _ _ rfl (.cons _ _ _ _ _ rfl (.cons _ _ _ _ _ rfl (.cons _ _ _ _ _ rfl (.nil _)))))) ?_ | refine AW_nil (fun (h : false = true) => by cases h) ?_
  refine Wp_cond rfl (fun hc => ?_) (fun hc => ?_)
  · simp [right_raw (Nat.le_trans ha (by decide)), right_raw (Nat.le_trans hb (by decide))] at hc
  · repeat first | refine Wp_seq ?_ | refine Wp_region tm_mixed ?_ | refine AW_assign rfl rfl ?_ | refine AW_load rfl ty_num rfl rfl rfl rfl ?_ | refine AW_store ty_num rfl rfl rfl rfl rfl rfl rfl ?_ | refine AW_call rfl rfl (by first | exact ct_right _ (Nat.le_of_ble_eq_true rfl) | exact ct_run _ _ _ ha hb) ?_ | refine AW_field rfl tf_row0 rfl rfl rfl ?_ | refine AW_nil (fun (h : false = true) => by cases h) ?_ | refine Wp_skip ?_ | refine Wp_ret ?_
    exact ⟨.inr rfl, _, .cell _ _ _ _ _ _ _ _ _ _ _ ty_num rfl rfl rfl (.tmp _ _ _ _ rfl .nil), by rw [eucR_gcd]; rfl⟩
def lcmZ (a b : Int) : Int := (a.natAbs : Int) * ((b.natAbs / Nat.gcd a.natAbs b.natAbs : Nat) : Int)
def lcmR (a b : Int) : Raw := if a = 0 ∨ b = 0 then (false, []) else rawOf (lcmZ a b)
end Go.Proofs.YtjbagikfogejnaaGreatDoor
