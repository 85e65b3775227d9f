import Derived.Test.YtonbhpadoplpkaaTimes
import Derived.Test.YtonbhpadoplpkaaNat5
import Derived.Test.YtonbhpadoplpkaaDiv1
import Derived.Test.YtonbhpadoplpkaaBox
import Derived.Deep.RegionWith
/- The package times: put, take, sum. -/
namespace Go.Proofs.Ytonbhpadoplpkaa
open Go.RowKit Go.Deep
/-- Row g was written; it is limbs still. -/
def Grew (w w' : World) (g : Nat) : Prop := w.grownBy w' (some g) ∧ ∀ base c, Fresh w base (some ⟨g, 0, none⟩) c → Fresh w' base (some ⟨g, 0, none⟩) c
theorem Grew.refl (w : World) (g : Nat) : Grew w w g := ⟨⟨rfl, rfl, rfl, Nat.le_refl _, fun _ _ _ => rfl⟩, fun _ _ h => h⟩
theorem Grew.set {w w1 : World} {g : Nat} (h : Grew w w1 g) (k : Nat) (u : Value) : Grew w (w1.setCell ⟨g, k, none⟩ u) g := ⟨grownBy_trans h.1 (only_set w1 ⟨g, k, none⟩ u), fun b c hf => (h.2 b c hf).set g k u⟩
theorem Grew.drewN {w w1 : World} {g : Nat} (h : Grew w w1 g) (m : Nat) : Grew w (w1.drewN m) g := ⟨grownBy_trans h.1 (drew_grown w1 m _), fun b c hf => (h.2 b c hf).below (below_drewN (Below.refl _ _) m)⟩
theorem put_step {a1 a2 P M c x d u c' y V : Nat} (h : a1 + P * c = a2 + M * V) (hs : d + W64 * c' = u + y + c) (hP : P = M * x) : a1 + P * d + P * W64 * c' = a2 + P * u + M * (V + x * y) := by
  have h5 : P * (d + W64 * c') = P * (u + y + c) := by rw [hs]
  subst hP
  grind
theorem wraps_small {n : Int} (h0 : 0 ≤ n) (h1 : n < 9223372036854775808) : IntKind.i64.wrap n = n ∧ wrap64 n = n := by
  constructor
  · rw [IntKind.wrap_i64]; omega
  · unfold wrap64; omega
theorem sum_small {a i l lo : Nat} (h : a + l ≤ lo) (hi : i < l) (hlo : lo ≤ 1099511627776) : 0 ≤ (a : Int) + (i : Int) ∧ (a : Int) + (i : Int) < 9223372036854775808 ∧ (a : Int) + (i : Int) < (lo : Int) ∧ ((a : Int) + (i : Int)).toNat = a + i := by omega
set_option maxHeartbeats 4000000 in
set_option maxRecDepth 100000 in
theorem times_put (g lo co at_ : Nat) (os : List Nat) (A2 : Option Addr) (l2 c2 : Nat) (xs : List Nat) (w : World) (hrow0 : Row w g os) (h2 : Lim w w.heap.size A2 xs) (hne : 0 < xs.length → ∀ ad, A2 = some ad → ad.block ≠ g) (elo : lo = os.length) (el2 : l2 = xs.length) (hat : at_ + l2 ≤ lo) (hfit : val os + W64 ^ at_ * val xs < W64 ^ lo) (hl : lo ≤ 1099511627776) :
    Calls Try.prog 79 #[.slice (some ⟨g, 0, none⟩) lo co, .slice A2 l2 c2, .int .i64 (at_ : Int)] w fun e w' => ∃ v os', e = .returned v ∧ Row w' g os' ∧ os'.length = lo ∧ val os' = val os + W64 ^ at_ * val xs ∧ Grew w w' g := by
  have HF := Lib.hid hfit
  have HLO := Lib.hid elo
  have HL2 := Lib.hid el2
  have hloI : (lo : Int) ≤ 1099511627776 := by omega
  have hatI : (at_ : Int) + (l2 : Int) ≤ (lo : Int) := by omega
  clear hfit elo el2
  go_enter Try.func79, Try.ntmps79
  go_wp2_with fail
  go_loopw [6, 11] (fun t6 t11 wr => ∃ (i c : Nat) (os1 : List Nat), i ≤ l2 ∧ c ≤ 1 ∧ t6 = .int .u64 (c : Int) ∧ t11 = .int .i64 (i : Int) ∧ Hid (os1.length = lo) ∧ Hid (Row wr g os1) ∧ Hid (Grew w wr g) ∧ Hid (os1.drop (at_ + i) = os.drop (at_ + i)) ∧ Hid (val (os1.take (at_ + i)) + W64 ^ (at_ + i) * c = val (os.take (at_ + i)) + W64 ^ at_ * val (xs.take i))) (fun _ t11 _ => l2 - (intOf t11).toNat)
  case atStart => exact ⟨0, 0, os, by omega, by omega, rfl, rfl, Lib.hid HLO.out.symm, Lib.hid hrow0, Lib.hid (Grew.refl _ _), Lib.hid rfl, Lib.hid (by simp)⟩
  case round =>
    obtain ⟨i, c, os1, hi, hc, rfl, rfl, HO, HROW, HGR, HD, HV⟩ := hrel
    by_cases hlt : i < l2
    · obtain ⟨ad, rfl, hb2, hcell⟩ := h2.at_ (k := i) (by rw [← HL2.out]; exact hlt)
      have hnb := hne (by rw [← HL2.out]; omega) ad rfl
      have hbk := block_of_add ad i
      have hcell2 : wr.cell? (ad.add i) = some (.int .u64 ((xs.getD i 0 : Nat) : Int)) := by
        rw [cell_of_block (w := w)]
        · exact hcell
        · rw [hbk]; exact HGR.out.1.block _ hb2 (by intro e; injection e with e; exact hnb e)
      obtain ⟨y, hy⟩ : ∃ y, xs.getD i 0 = y := ⟨_, rfl⟩
      obtain ⟨u, hu⟩ : ∃ u, os1.getD (at_ + i) 0 = u := ⟨_, rfl⟩
      have hyW : y < W64 := hy ▸ h2.small.getD i
      have huW : u < W64 := hu ▸ HROW.out.small.getD (at_ + i)
      rw [hy] at hcell2
      have hcg := HROW.out.cell (k := at_ + i) (by rw [HO.out]; omega)
      rw [hu] at hcg
      have hfg := HROW.out.free (at_ + i)
      have HSTEP := Lib.hid (show val ((os1.set (at_ + i) (addLo u y c)).take (at_ + (i + 1))) + W64 ^ (at_ + (i + 1)) * addHi u y c = val (os.take (at_ + (i + 1))) + W64 ^ at_ * val (xs.take (i + 1)) by
        have hV := HV.out
        have hu2 : os.getD (at_ + i) 0 = u := by rw [← hu]; exact (getD_of_drop HD.out).symm
        rw [← Nat.add_assoc, val_take_set os1 _ _ (by rw [HO.out]; omega), val_take_step os, val_take_step xs, hy, hu2, Nat.pow_succ]
        exact put_step hV (add_split u y c) (Nat.pow_add _ _ _))
      have hc1 := addHi_le huW hyW hc
      have HSET := Lib.hid (HROW.out.set (k := at_ + i) (x := addLo u y c) (by rw [HO.out]; omega) (addLo_lt _ _ _))
      have HGR2 := Lib.hid (HGR.out.set (at_ + i) (.int .u64 (addLo u y c : Nat)))
      have HO2 := Lib.hid (show (os1.set (at_ + i) (addLo u y c)).length = lo by rw [List.length_set, HO.out])
      have HD2 := Lib.hid (show (os1.set (at_ + i) (addLo u y c)).drop (at_ + (i + 1)) = os.drop (at_ + (i + 1)) by
        rw [List.drop_set_of_lt (by omega), ← Nat.add_assoc]; exact drop_more HD.out 1)
      have ha := add64_run u y c hc
      have r1 := hcell2
      have hiI : (i : Int) < (l2 : Int) := by omega
      have HU := Lib.hid (And.intro hu hy)
      clear hu hy hb2 hbk hnb hcell
      go_wp2_with fail
      have HGN := Lib.hid (fun m => (HGR.out.drewN m).set (at_ + i) (.int .u64 (addLo u y c : Nat)))
      have HSN := Lib.hid (fun m => show Row ((wr.drewN m).setCell ⟨g, at_ + i, none⟩ (.int .u64 (addLo u y c : Nat))) g (os1.set (at_ + i) (addLo u y c)) from (HROW.out.drewN m).set (by rw [HO.out]; omega) (addLo_lt _ _ _))
      obtain ⟨m, hm⟩ : ∃ m, at_ + i = m := ⟨_, rfl⟩
      obtain ⟨h0m, h9m, hsl, hto⟩ := sum_small hat hlt hl
      obtain ⟨hw1, hw2⟩ := wraps_small h0m h9m
      have HIL := Lib.hid hlt
      rw [hm] at hto
      rw [hm] at hcg hfg HSN HGN HO2 HD2 HSTEP
      clear r1 HSET HGR2 HROW HGR HD HV HO
      subst hm
      clear h9m hat hl
      go_region_with (fail)
      all_goals
        clear hw1 hw2 hto h0m hsl ha hcg hfg
        go_wp2_with fail
        exact ⟨⟨i + 1, _, _, HIL.out, hc1, rfl, by go_num, HO2, Lib.hid (HSN.out _), Lib.hid (HGN.out _), HD2, HSTEP⟩, by have := HIL.out; simp [intOf]; omega⟩
    · obtain rfl : i = l2 := by omega
      have hiI : ¬ ((i : Int) < (i : Int)) := by omega
      go_wp2_with fail
      clear hi
      obtain ⟨wo, hwo⟩ : ∃ wo : World, wo = wr := ⟨_, rfl⟩
      subst hwo
      have hxs : xs.take i = xs := List.take_of_length_le (by rw [← HL2.out]; exact Nat.le_refl _)
      rw [hxs] at HV
      clear hxs
      go_loopw [6, 8] (fun t6 t8 wr => ∃ (j c : Nat) (os1 : List Nat), j ≤ lo ∧ c ≤ 1 ∧ t6 = .int .u64 (c : Int) ∧ t8 = .int .i64 (j : Int) ∧ Hid (os1.length = lo) ∧ Hid (Row wr g os1) ∧ Hid (Grew w wr g) ∧ Hid (os1.drop j = os.drop j) ∧ Hid (val (os1.take j) + W64 ^ j * c = val (os.take j) + W64 ^ at_ * val xs)) (fun _ t8 _ => lo - (intOf t8).toNat)
      case atStart => exact ⟨at_ + i, c, os1, by omega, hc, rfl, by go_num, HO, HROW, HGR, HD, HV⟩
      case round =>
        clear HO HROW HGR HD HV hc
        obtain ⟨j, c, os1, hj, hc, rfl, rfl, HO, HROW, HGR, HD, HV⟩ := hrel
        rcases Nat.eq_zero_or_pos c with hc0 | hc0
        · subst hc0
          have HFIN := Lib.hid (show val os1 = val os + W64 ^ at_ * val xs by
            have h1 := val_split os1 j (by rw [HO.out]; exact hj)
            have h2 := val_split os j (by rw [← HLO.out]; exact hj)
            have h3 := HV.out
            rw [HD.out] at h1
            rw [Nat.mul_zero, Nat.add_zero] at h3
            omega)
          go_wp2_with fail
          go_end0
          exact ⟨_, os1, rfl, HROW.out, HO.out, HFIN.out, HGR.out⟩
        · obtain rfl : c = 1 := by omega
          have hjl : j < lo := by
            rcases Nat.lt_or_ge j lo with h | h
            · exact h
            · exfalso
              obtain rfl : j = lo := by omega
              have h1 := HV.out
              rw [List.take_of_length_le (l := os1) (by rw [HO.out]; exact Nat.le_refl _), List.take_of_length_le (l := os) (by rw [← HLO.out]; exact Nat.le_refl _)] at h1
              have := HF.out
              omega
          obtain ⟨u, hu⟩ : ∃ u, os1.getD j 0 = u := ⟨_, rfl⟩
          have huW : u < W64 := hu ▸ HROW.out.small.getD j
          have hcg := HROW.out.cell (k := j) (by rw [HO.out]; omega)
          rw [hu] at hcg
          have hfg := HROW.out.free j
          have HSTEP := Lib.hid (show val ((os1.set j (addLo u 0 1)).take (j + 1)) + W64 ^ (j + 1) * addHi u 0 1 = val (os.take (j + 1)) + W64 ^ at_ * val xs by
            have hV := HV.out
            have hu2 : os.getD j 0 = u := by rw [← hu]; exact (getD_of_drop HD.out).symm
            rw [val_take_set os1 _ _ (by rw [HO.out]; omega), val_take_step os, hu2, Nat.pow_succ]
            have h5 : W64 ^ j * (addLo u 0 1 + W64 * addHi u 0 1) = W64 ^ j * (u + 0 + 1) := by rw [add_split]
            rw [Nat.mul_add, Nat.mul_add, Nat.add_zero, Nat.mul_one, ← Nat.mul_assoc] at h5
            rw [Nat.mul_one] at hV
            omega)
          have hc1 := addHi_le huW W64_pos (Nat.le_refl 1)
          have HSET := Lib.hid (HROW.out.set (k := j) (x := addLo u 0 1) (by rw [HO.out]; omega) (addLo_lt _ _ _))
          have HGR2 := Lib.hid (HGR.out.set (j) (.int .u64 (addLo u 0 1 : Nat)))
          have HO2 := Lib.hid (show (os1.set j (addLo u 0 1)).length = lo by rw [List.length_set, HO.out])
          have HD2 := Lib.hid (show (os1.set j (addLo u 0 1)).drop (j + 1) = os.drop (j + 1) by
            rw [List.drop_set_of_lt (by omega)]; exact drop_more HD.out 1)
          have ha := add64_run u 0 1 (Nat.le_refl 1)
          rw [Int.natCast_zero, Int.natCast_one] at ha
          have hjI : (j : Int) < (lo : Int) := by omega
          have HU := Lib.hid hu
          clear hu
          go_wp2_with fail
          exact ⟨⟨j + 1, _, _, by omega, hc1, rfl, by go_num, HO2, HSET, HGR2, HD2, HSTEP⟩, by simp [intOf]; omega⟩
end Go.Proofs.Ytonbhpadoplpkaa
