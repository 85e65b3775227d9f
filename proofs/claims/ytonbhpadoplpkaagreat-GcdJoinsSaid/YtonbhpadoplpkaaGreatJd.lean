import Derived.Test.YtonbhpadoplpkaaGreatJc
import Derived.Test.YtonbhpadoplpkaaGreatProg
import Derived.WalkKit
import Derived.Laws.OwnMore
import Derived.Deep.Draws
import Derived.Deep.OwnRows
import Derived.Deep.LoopGhost
import Derived.Deep.QuietTactic
import Derived.BigQuiet
import Derived.Lib.Hide
import Derived.Maps.AppendAt
import Derived.Laws.Rows
import Derived.OneCell
import Derived.Shelf.Spec.BitsCarry
import Derived.Deep.DeepCutAuto
import Derived.Shelf.Small.Bits
import Derived.Shelf.Strconv.Itoa0
import Derived.Shelf.Bits.Mul64
import Derived.Lib.BitFns
import Derived.Deep.CutBlock
import Derived.BigRegion
import Derived.StillTailTactics
import Derived.Deep.AppendLies
import Derived.Orders
import Derived.Lib.SliceRun
import Derived.Deep.MidRow
import Derived.BigCall
import Derived.Laws.AppendOwn
import Derived.Great.BuildSlice
import Derived.Deep.RegionWith
import Derived.WalkMore
import Derived.Laws.EntriesVeiled
import Derived.Laws.CopyOwn
import Derived.Test.YtonbhpadoplpkaaGreatRows
import Derived.ProofKit
import Derived.OpenShut
import Derived.Deep.SlicePairs
import Derived.WideKeyArgs
/- Of: Times, Kar, Kar2, Kar3, Kar4, Gct, Lent, Ref8, Ref9, Ref10, Ref11, KitI, Copy, Kct. -/
/- The package times: trim, school. -/
namespace Go.Proofs.YtonbhpadoplpkaaGreat
open Go.RowKit Go.Deep
set_option maxHeartbeats 400000 in
theorem times_trim (A : Option Addr) (c : Nat) (xs : List Nat) (w : World) {B : Nat} (h : Lim w B A xs) (_hc : xs.length ≤ c) (_hl : xs.length ≤ 35184372088832) :
    Calls Tryz.prog 153 #[.slice A xs.length c] w fun e w' => e = .returned (.slice A (limbs (val xs)).length c) ∧ w = w' := by
  rw [← trimL_eq h.small]
  go_enter Tryz.func153, Tryz.ntmps153
  go_wp2
  go_loop [0] (fun v => ∃ n : Nat, n ≤ xs.length ∧ v = .slice A n c ∧ trimL (xs.take n) = trimL xs) (fun v => match v with | .slice _ n _ => n | _ => 0)
  case atStart => exact ⟨xs.length, Nat.le_refl _, rfl, by simp⟩
  case round =>
    obtain ⟨n, hn, rfl, ht⟩ := hrel
    have HT := Lib.hid ht
    clear ht
    rcases n with _ | n
    · go_wp2
      go_ret
      exact ⟨by rw [← HT.out]; rfl, rfl⟩
    · obtain ⟨ad, rfl, hb, hcell⟩ := h.at_ (k := n) (by omega)
      generalize hx : xs.getD n 0 = x at *
      have HX := Lib.hid hx
      clear hx
      go_wp2
      · have hx : ((x : Int) == 0) = true := by assumption
        simp only [beq_iff_eq] at hx
        refine ⟨⟨n, by omega, rfl, ?_⟩, by simp⟩
        rw [← HT.out, trimL_zero xs n (by omega) (by have := HX.out; omega)]
      · have hx : ((x : Int) == 0) = false := by assumption
        simp only [beq_eq_false_iff_ne] at hx
        go_ret
        have e : (trimL xs).length = n + 1 := by
          rw [← HT.out, trimL_pos xs n (by omega) (by have := HX.out; omega), List.length_take]; omega
        exact ⟨by rw [e]; rfl, rfl⟩
theorem school_step {lo hi o s1 c1 s c2 carry x y : Nat} (h1 : lo + W64 * hi = x * y) (h2 : s1 + W64 * c1 = lo + carry + 0) (h3 : s + W64 * c2 = o + s1 + 0) : s + W64 * (hi + c1 + c2) = x * y + o + carry := by
  rw [Nat.mul_add, Nat.mul_add]; omega
set_option maxHeartbeats 1600000 in
set_option maxRecDepth 100000 in
theorem times_school (A1 A2 : Option Addr) (l1 l2 c1 c2 : Nat) (xs ys : List Nat) (w : World) (h1 : Lim w w.heap.size A1 xs) (h2 : Lim w w.heap.size A2 ys) (e1 : l1 = xs.length) (e2 : l2 = ys.length) (hl : l1 + l2 ≤ 1099511627776) :
    Calls Tryz.prog 121 #[.slice A1 l1 c1, .slice A2 l2 c2] w fun e w' => ∃ A c, e = .returned (.slice A (limbs (val xs * val ys)).length c) ∧ (limbs (val xs * val ys)).length ≤ c ∧ Lim w' w'.heap.size A (limbs (val xs * val ys)) ∧ Fresh w' w.heap.size A c ∧ Below w.heap.size w w' := by
  have hmk := make_limbs (l1 + l2) (by omega)
  rw [Int.natCast_add] at hmk
  have E1 := Lib.hid e1
  have E2 := Lib.hid e2
  clear e1 e2
  go_enter Tryz.func121, Tryz.ntmps121
  go_wp2_with fail
  go_loopw [20] (fun t31 wr => ∃ (i : Nat) (os : List Nat), i ≤ l1 ∧ os.length = l1 + l2 ∧ t31 = .int .i64 (i : Int) ∧ Row wr w.heap.size os ∧ Fresh wr w.heap.size (some ⟨w.heap.size, 0, none⟩) (l1 + l2) ∧ Below w.heap.size w wr ∧ val (os.take (i + l2)) = val (xs.take i) * val ys) (fun t31 _ => l1 - (intOf t31).toNat)
  case atStart =>
    refine ⟨0, List.replicate (l1 + l2) 0, by omega, by simp, rfl, Row.made _ _, Fresh.made _ _, (Below.refl _ _).alloc (Nat.le_refl _) _, ?_⟩
    rw [List.take_replicate, val_zeros]; simp
  case round =>
    obtain ⟨i, os0, hi, ho0, rfl, hrow0, hfr0, hbel0, hval0⟩ := hrel
    have HV0 := Lib.hid hval0
    have HO0 := Lib.hid ho0
    have HF0 := Lib.hid hfr0
    clear hval0 ho0 hfr0
    by_cases hlt : i < l1
    · obtain ⟨x, hx⟩ : ∃ x, xs.getD i 0 = x := ⟨_, rfl⟩
      have hxs : x < W64 := hx ▸ h1.small.getD i
      have HX := Lib.hid hx
      have hltI : (i : Int) < (l1 : Int) := by omega
      clear hx
      go_wp2_with fail
      obtain ⟨wo, hwo⟩ : ∃ wo : World, wo = wr := ⟨_, rfl⟩
      subst hwo
      go_loopw [7, 25] (fun t8 t38 wr => ∃ (k c : Nat) (os : List Nat), k ≤ l2 ∧ c < W64 ∧ os.length = l1 + l2 ∧ t8 = .int .u64 (c : Int) ∧ t38 = .int .i64 (k : Int) ∧ Row wr w.heap.size os ∧ Fresh wr w.heap.size (some ⟨w.heap.size, 0, none⟩) (l1 + l2) ∧ Below w.heap.size w wr ∧ os.drop (i + k) = os0.drop (i + k) ∧ val (os.take (i + k)) + W64 ^ (i + k) * c = val (os0.take (i + k)) + W64 ^ i * (x * val (ys.take k))) (fun _ t38 _ => l2 - (intOf t38).toNat)
      case atStart => exact ⟨0, 0, os0, by omega, W64_pos, HO0.out, rfl, rfl, hrow0, HF0.out, hbel0, rfl, by simp⟩
      case round =>
        clear hrow0 hbel0
        obtain ⟨k, c, os, hk, hc, ho, rfl, rfl, hrow, hfr, hbel, hdrop, hval⟩ := hrel
        have HV := Lib.hid hval
        have HO := Lib.hid ho
        have HD := Lib.hid hdrop
        have HF := Lib.hid hfr
        clear hval ho hdrop hfr
        by_cases hlk : k < l2
        · obtain ⟨ad, hA1, hb, hcell⟩ := (h1.below hbel).at_ (k := i) (by rw [← E1.out]; exact hlt)
          subst hA1
          rw [HX.out] at hcell
          obtain ⟨ad2, hA2, hb2, hcell2⟩ := (h2.below hbel).at_ (k := k) (by rw [← E2.out]; exact hlk)
          subst hA2
          obtain ⟨y, hy⟩ : ∃ y, ys.getD k 0 = y := ⟨_, rfl⟩
          have hys : y < W64 := hy ▸ h2.small.getD k
          rw [hy] at hcell2
          have hcg := hrow.cell (k := i + k) (by rw [HO.out]; omega)
          have hfg := hrow.free (i + k)
          obtain ⟨o, hoo⟩ : ∃ o, os.getD (i + k) 0 = o := ⟨_, rfl⟩
          have hos : o < W64 := hoo ▸ hrow.small.getD (i + k)
          rw [hoo] at hcg
          have hstep := school_step (mul_split x y) (add_split (mulLo x y) c 0) (add_split o (addLo (mulLo x y) c 0) 0)
          have hbd := limb_mul_bound hxs hys hos hc hstep
          have hstep2 : val ((os.set (i + k) (addLo o (addLo (mulLo x y) c 0) 0)).take (i + (k + 1))) + W64 ^ (i + (k + 1)) * (mulHi x y + addHi (mulLo x y) c 0 + addHi o (addLo (mulLo x y) c 0) 0) = val (os0.take (i + (k + 1))) + W64 ^ i * (x * val (ys.take (k + 1))) := by
            have hV := HV.out
            have ho2 : os0.getD (i + k) 0 = o := by
              have := congrArg (fun l => l.getD 0 0) HD.out
              rw [← hoo]; simpa using this.symm
            rw [← Nat.add_assoc, val_take_set os _ _ (by rw [HO.out]; omega), val_take_step os0, val_take_step ys, hy, ho2, Nat.pow_succ]
            rw [Nat.pow_add] at hV ⊢
            generalize val (os.take (i + k)) = a1 at *
            generalize val (os0.take (i + k)) = a2 at *
            generalize val (ys.take k) = a3 at *
            generalize W64 ^ i = P at *
            generalize W64 ^ k = Q at *
            generalize addLo o (addLo (mulLo x y) c 0) 0 = s at *
            generalize mulHi x y + addHi (mulLo x y) c 0 + addHi o (addLo (mulLo x y) c 0) 0 = d at *
            have : P * Q * (s + W64 * d) = P * Q * (x * y + o + c) := by rw [hstep]
            grind
          have hb1 := lt_W64 (x := mulHi x y + addHi (mulLo x y) c 0) (by omega)
          have hb2 := lt_W64 hbd
          rw [Int.natCast_add] at hb1 hb2
          rw [Int.natCast_add] at hb2
          have HROW := Lib.hid hrow
          have HBEL := Lib.hid hbel
          have HL := Lib.hid (show (os.set (i + k) (addLo o (addLo (mulLo x y) c 0) 0)).length = l1 + l2 by rw [List.length_set, HO.out])
          have HDD := Lib.hid (show (os.set (i + k) (addLo o (addLo (mulLo x y) c 0) 0)).drop (i + (k + 1)) = os0.drop (i + (k + 1)) by
            rw [List.drop_set_of_lt (by omega)]
            have := congrArg (List.drop 1) HD.out
            simpa [Nat.add_assoc] using this)
          have HS := Lib.hid hstep2
          have HY := Lib.hid hy
          have HOO := Lib.hid hoo
          have hm := fun n => quiet_left (bits_mul64 x y hxs hys (wr.drewN n))
          have HM := Lib.hid hm
          have r1 := later_cell hcell
          clear hstep2 hstep hy hoo hm hrow hbel
          have ha1 := add64_run0 (mulLo x y) c
          have ha2 := add64_run0 o (addLo (mulLo x y) c 0)
          have hklI : (k : Int) < (l2 : Int) := by omega
          go_wp2_with fail
          go_quiet ((go_at_call 152; exact quiet_left (bits_mul64 x y hxs hys _)))
          have hrow2 := HROW.out.drewN nq
          have hbel2 := below_drewN HBEL.out nq
          have hfr2 : Fresh (wr.drewN nq) w.heap.size (some ⟨w.heap.size, 0, none⟩) (l1 + l2) := HF.out
          have hcg2 : (wr.drewN nq).cell? ⟨w.heap.size, i + k, none⟩ = some (.int .u64 (o : Int)) := hcg
          have hfg2 : (wr.drewN nq).frozen? ⟨w.heap.size, i + k, none⟩ = false := hfg
          generalize wr.drewN nq = w2 at hrow2 hbel2 hfr2 hcg2 hfg2 ⊢
          have hset := hrow2.set (k := i + k) (x := addLo o (addLo (mulLo x y) c 0) 0) (by rw [HO.out]; omega) (addLo_lt _ _ _)
          have hbel' := hbel2.setCell (p := ⟨w.heap.size, i + k, none⟩) (Nat.le_refl _) (.int .u64 (addLo o (addLo (mulLo x y) c 0) 0 : Int))
          have hfr' := hfr2.set w.heap.size (i + k) (.int .u64 (addLo o (addLo (mulLo x y) c 0) 0 : Int))
          have HSET := Lib.hid hset
          have HBL := Lib.hid hbel'
          have HFR := Lib.hid hfr'
          clear hset hbel' hfr' hrow2 hbel2 hfr2 hcg hfg r1
          go_wp2_with fail
          exact ⟨⟨k + 1, _, _, by omega, hbd, HL.out, by simp only [Int.natCast_add], by go_num, HSET.out, HFR.out, HBL.out, HDD.out, HS.out⟩, by simp [intOf]; omega⟩
        · obtain rfl : k = l2 := by omega
          have hcg := hrow.cell (k := i + k) (by rw [HO.out]; omega)
          have hfg := hrow.free (i + k)
          have hset := hrow.set (k := i + k) (x := c) (by rw [HO.out]; omega) hc
          have hbel' := hbel.setCell (p := ⟨w.heap.size, i + k, none⟩) (Nat.le_refl _) (.int .u64 (c : Int))
          have hfr' := HF.out.set w.heap.size (i + k) (.int .u64 (c : Int))
          have HL := Lib.hid (show (os.set (i + k) c).length = l1 + k by rw [List.length_set, HO.out])
          have HS := Lib.hid (show val ((os.set (i + k) c).take (i + 1 + k)) = val (xs.take (i + 1)) * val ys by
            have hV := HV.out
            have hV0 := HV0.out
            rw [show i + 1 + k = i + k + 1 by omega, val_take_set os _ _ (by rw [HO.out]; omega), hV, val_take_step xs, HX.out, List.take_of_length_le (l := ys) (by rw [← E2.out]; exact Nat.le_refl _), hV0, Nat.add_mul, Nat.mul_assoc])
          have hkkI : ¬ ((k : Int) < (k : Int)) := by omega
          go_wp2_with fail
          exact ⟨⟨i + 1, _, by omega, HL.out, by go_num, hset, hfr', hbel', HS.out⟩, by simp [intOf]; omega⟩
    · obtain rfl : i = l1 := by omega
      have HF := Lib.hid (show val os0 = val xs * val ys by
        have hV := HV0.out
        rwa [List.take_of_length_le (l := os0) (by rw [HO0.out]; exact Nat.le_refl _), List.take_of_length_le (l := xs) (by rw [← E1.out]; exact Nat.le_refl _)] at hV)
      go_wp2_with fail
      have hex : i + l2 = os0.length := HO0.out.symm
      rw [hex]
      refine (times_trim _ _ _ _ (hrow0.lim (B := w.heap.size + 1) (by omega)) (Nat.le_refl _) (by rw [HO0.out]; omega)).mono ?_
      rintro e w1 ⟨rfl, rfl⟩
      rw [HF.out]
      go_wp2_with fail
      go_ret
      have hl3 := limbs_val_le hrow0.small
      rw [HF.out] at hl3
      have hlim := (hrow0.lim (B := w.heap.size + 1) (by omega)).trim.more hrow0.lt
      rw [HF.out] at hlim
      exact ⟨_, _, rfl, hl3, hlim, by rw [← hex]; exact HF0.out, hbel0⟩
end Go.Proofs.YtonbhpadoplpkaaGreat
/- The package times: deep, told, Mul (where one of both is short). -/
namespace Go.Proofs.YtonbhpadoplpkaaGreat
open Go.RowKit Go.Deep
set_option maxRecDepth 100000 in
theorem times_deep1 (A1 A2 : Option Addr) (l1 l2 c1 c2 d g : Nat) (xs ys : List Nat) (w : World) (h1 : Lim w w.heap.size A1 xs) (h2 : Lim w w.heap.size A2 ys) (e1 : l1 = xs.length) (e2 : l2 = ys.length) (hl : l1 + l2 ≤ 1099511627776)
    (hd : w.cell? ⟨d, 0, none⟩ = some (.int .i64 24)) (hs : min l1 l2 < 24) :
    Calls Tryz.prog 120 #[.slice A1 l1 c1, .slice A2 l2 c2, .pointer (some ⟨d, 0, none⟩), .pointer (some ⟨g, 0, none⟩)] w fun e w' => ∃ A c, e = .returned (.slice A (limbs (val xs * val ys)).length c) ∧ (limbs (val xs * val ys)).length ≤ c ∧ Lim w' w'.heap.size A (limbs (val xs * val ys)) ∧ Fresh w' w.heap.size A c ∧ Below w.heap.size w w' := by
  have hsI : min (l1 : Int) (l2 : Int) < 24 := by omega
  have E1 := Lib.hid e1
  have E2 := Lib.hid e2
  clear e1 e2 hs
  go_enter Tryz.func120, Tryz.ntmps120
  go_wp2_with fail
  refine (times_school A1 A2 l1 l2 c1 c2 xs ys w h1 h2 E1.out E2.out hl).mono ?_
  rintro e w1 ⟨A, c, rfl, hc, hlim, hf, hb⟩
  go_wp2_with fail
  go_ret
  exact ⟨A, c, rfl, hc, hlim, hf, hb⟩
set_option maxRecDepth 100000 in
theorem times_deep (w : World) :
    Calls Tryz.prog 81 #[.int .i64 24] w fun e w' => ∃ d g, e = .returned (.func (.func 120) #[] #[.pointer (some ⟨d, 0, none⟩), .pointer (some ⟨g, 0, none⟩)]) ∧ d = w.heap.size ∧ g = w.heap.size + 1 ∧ w'.heap.size = w.heap.size + 2 ∧ Below w.heap.size w w' ∧
      w'.cell? ⟨d, 0, none⟩ = some (.int .i64 24) ∧ w'.cell? ⟨g, 0, none⟩ = some (.func (.func 120) #[] #[.pointer (some ⟨d, 0, none⟩), .pointer (some ⟨g, 0, none⟩)]) := by
  go_enter Tryz.func81, Tryz.ntmps81
  go_wp2_with fail
  go_ret
  refine ⟨w.heap.size, w.heap.size + 1, rfl, rfl, rfl, by simp, ?_, ?_, ?_⟩
  · first
    | exact ((Below.refl _ w).alloc (Nat.le_refl _) _).alloc (by simp) _
    | exact (((Below.refl _ w).alloc (Nat.le_refl _) _).alloc (by simp) _).setCell (p := ⟨w.heap.size + 1, 0, none⟩) (by simp) _
  · rw [cell_of_row _ _ 0 #[.int .i64 24] 3 (0, 0)]
    · rfl
    · rw [Below.heap_alloc _ _ _ (by simp)]; exact heap_alloc_new w _
  · rw [cell_of_row _ _ 0 #[.func (.func 120) #[] #[.pointer (some ⟨w.heap.size, 0, none⟩), .pointer (some ⟨w.heap.size + 1, 0, none⟩)]] _ (0, 0)]
    · rfl
    · have h := heap_alloc_new (w.alloc (.cells #[.int .i64 24] 3)) (.cells #[.func (.func 120) #[] #[.pointer (some ⟨w.heap.size, 0, none⟩), .pointer (some ⟨w.heap.size + 1, 0, none⟩)]] 87)
      simpa using h
theorem lc_mul_ge {x y : Nat} (hx : 0 < x) (hy : 0 < y) : lc x + lc y ≤ lc (x * y) + 1 := by
  have h1 : W64 ^ (lc x - 1) ≤ x := by
    have h : ¬ lc x ≤ lc x - 1 := fun h => by
      have : lc x = 0 := by omega
      have := lc_eq_zero.1 this; omega
    rw [lc_le] at h; omega
  have h2 : W64 ^ (lc y - 1) ≤ y := by
    have h : ¬ lc y ≤ lc y - 1 := fun h => by
      have : lc y = 0 := by omega
      have := lc_eq_zero.1 this; omega
    rw [lc_le] at h; omega
  have h3 := Nat.mul_le_mul h1 h2
  rw [← Nat.pow_add] at h3
  have h4 : ¬ lc (x * y) ≤ lc x - 1 + (lc y - 1) := fun h => by
    rw [lc_le] at h; omega
  omega
end Go.Proofs.YtonbhpadoplpkaaGreat
/- The package times: put, take, sum. -/
namespace Go.Proofs.YtonbhpadoplpkaaGreat
open Go.RowKit Go.Deep
/-- Row g was written; it is limbs still. -/
def Grew (w w' : World) (g : Nat) : Prop := w.grownBy w' (some g) ∧ ∀ base c, Fresh w base (some ⟨g, 0, none⟩) c → Fresh w' base (some ⟨g, 0, none⟩) c
theorem Grew.refl (w : World) (g : Nat) : Grew w w g := ⟨⟨rfl, rfl, rfl, Nat.le_refl _, fun _ _ _ => rfl⟩, fun _ _ h => h⟩
theorem Grew.set {w w1 : World} {g : Nat} (h : Grew w w1 g) (k : Nat) (u : Value) : Grew w (w1.setCell ⟨g, k, none⟩ u) g := ⟨grownBy_trans h.1 (only_set w1 ⟨g, k, none⟩ u), fun b c hf => (h.2 b c hf).set g k u⟩
theorem Grew.drewN {w w1 : World} {g : Nat} (h : Grew w w1 g) (m : Nat) : Grew w (w1.drewN m) g := ⟨grownBy_trans h.1 (drew_grown w1 m _), fun b c hf => (h.2 b c hf).below (below_drewN (Below.refl _ _) m)⟩
theorem put_step {a1 a2 P M c x d u c' y V : Nat} (h : a1 + P * c = a2 + M * V) (hs : d + W64 * c' = u + y + c) (hP : P = M * x) : a1 + P * d + P * W64 * c' = a2 + P * u + M * (V + x * y) := by
  have h5 : P * (d + W64 * c') = P * (u + y + c) := by rw [hs]
  subst hP
  grind
theorem wraps_small {n : Int} (h0 : 0 ≤ n) (h1 : n < 9223372036854775808) : IntKind.i64.wrap n = n ∧ wrap64 n = n := by
  constructor
  · rw [IntKind.wrap_i64]; omega
  · unfold wrap64; omega
theorem sum_small {a i l lo : Nat} (h : a + l ≤ lo) (hi : i < l) (hlo : lo ≤ 1099511627776) : 0 ≤ (a : Int) + (i : Int) ∧ (a : Int) + (i : Int) < 9223372036854775808 ∧ (a : Int) + (i : Int) < (lo : Int) ∧ ((a : Int) + (i : Int)).toNat = a + i := by omega
set_option maxHeartbeats 4000000 in
set_option maxRecDepth 100000 in
theorem times_put (g lo co at_ : Nat) (os : List Nat) (A2 : Option Addr) (l2 c2 : Nat) (xs : List Nat) (w : World) (hrow0 : Row w g os) (h2 : Lim w w.heap.size A2 xs) (hne : 0 < xs.length → ∀ ad, A2 = some ad → ad.block ≠ g) (elo : lo = os.length) (el2 : l2 = xs.length) (hat : at_ + l2 ≤ lo) (hfit : val os + W64 ^ at_ * val xs < W64 ^ lo) (hl : lo ≤ 1099511627776) :
    Calls Tryz.prog 154 #[.slice (some ⟨g, 0, none⟩) lo co, .slice A2 l2 c2, .int .i64 (at_ : Int)] w fun e w' => ∃ v os', e = .returned v ∧ Row w' g os' ∧ os'.length = lo ∧ val os' = val os + W64 ^ at_ * val xs ∧ Grew w w' g := by
  have HF := Lib.hid hfit
  have HLO := Lib.hid elo
  have HL2 := Lib.hid el2
  have hloI : (lo : Int) ≤ 1099511627776 := by omega
  have hatI : (at_ : Int) + (l2 : Int) ≤ (lo : Int) := by omega
  clear hfit elo el2
  go_enter Tryz.func154, Tryz.ntmps154
  go_wp2_with fail
  go_loopw [6, 11] (fun t6 t11 wr => ∃ (i c : Nat) (os1 : List Nat), i ≤ l2 ∧ c ≤ 1 ∧ t6 = .int .u64 (c : Int) ∧ t11 = .int .i64 (i : Int) ∧ Hid (os1.length = lo) ∧ Hid (Row wr g os1) ∧ Hid (Grew w wr g) ∧ Hid (os1.drop (at_ + i) = os.drop (at_ + i)) ∧ Hid (val (os1.take (at_ + i)) + W64 ^ (at_ + i) * c = val (os.take (at_ + i)) + W64 ^ at_ * val (xs.take i))) (fun _ t11 _ => l2 - (intOf t11).toNat)
  case atStart => exact ⟨0, 0, os, by omega, by omega, rfl, rfl, Lib.hid HLO.out.symm, Lib.hid hrow0, Lib.hid (Grew.refl _ _), Lib.hid rfl, Lib.hid (by simp)⟩
  case round =>
    obtain ⟨i, c, os1, hi, hc, rfl, rfl, HO, HROW, HGR, HD, HV⟩ := hrel
    by_cases hlt : i < l2
    · obtain ⟨ad, rfl, hb2, hcell⟩ := h2.at_ (k := i) (by rw [← HL2.out]; exact hlt)
      have hnb := hne (by rw [← HL2.out]; omega) ad rfl
      have hbk := block_of_add ad i
      have hcell2 : wr.cell? (ad.add i) = some (.int .u64 ((xs.getD i 0 : Nat) : Int)) := by
        rw [cell_of_block (w := w)]
        · exact hcell
        · rw [hbk]; exact HGR.out.1.block _ hb2 (by intro e; injection e with e; exact hnb e)
      obtain ⟨y, hy⟩ : ∃ y, xs.getD i 0 = y := ⟨_, rfl⟩
      obtain ⟨u, hu⟩ : ∃ u, os1.getD (at_ + i) 0 = u := ⟨_, rfl⟩
      have hyW : y < W64 := hy ▸ h2.small.getD i
      have huW : u < W64 := hu ▸ HROW.out.small.getD (at_ + i)
      rw [hy] at hcell2
      have hcg := HROW.out.cell (k := at_ + i) (by rw [HO.out]; omega)
      rw [hu] at hcg
      have hfg := HROW.out.free (at_ + i)
      have HSTEP := Lib.hid (show val ((os1.set (at_ + i) (addLo u y c)).take (at_ + (i + 1))) + W64 ^ (at_ + (i + 1)) * addHi u y c = val (os.take (at_ + (i + 1))) + W64 ^ at_ * val (xs.take (i + 1)) by
        have hV := HV.out
        have hu2 : os.getD (at_ + i) 0 = u := by rw [← hu]; exact (getD_of_drop HD.out).symm
        rw [← Nat.add_assoc, val_take_set os1 _ _ (by rw [HO.out]; omega), val_take_step os, val_take_step xs, hy, hu2, Nat.pow_succ]
        exact put_step hV (add_split u y c) (Nat.pow_add _ _ _))
      have hc1 := addHi_le huW hyW hc
      have HSET := Lib.hid (HROW.out.set (k := at_ + i) (x := addLo u y c) (by rw [HO.out]; omega) (addLo_lt _ _ _))
      have HGR2 := Lib.hid (HGR.out.set (at_ + i) (.int .u64 (addLo u y c : Nat)))
      have HO2 := Lib.hid (show (os1.set (at_ + i) (addLo u y c)).length = lo by rw [List.length_set, HO.out])
      have HD2 := Lib.hid (show (os1.set (at_ + i) (addLo u y c)).drop (at_ + (i + 1)) = os.drop (at_ + (i + 1)) by
        rw [List.drop_set_of_lt (by omega), ← Nat.add_assoc]; exact drop_more HD.out 1)
      have ha := add64_run u y c hc
      have r1 := hcell2
      have hiI : (i : Int) < (l2 : Int) := by omega
      have HU := Lib.hid (And.intro hu hy)
      clear hu hy hb2 hbk hnb hcell
      go_wp2_with fail
      have HGN := Lib.hid (fun m => (HGR.out.drewN m).set (at_ + i) (.int .u64 (addLo u y c : Nat)))
      have HSN := Lib.hid (fun m => show Row ((wr.drewN m).setCell ⟨g, at_ + i, none⟩ (.int .u64 (addLo u y c : Nat))) g (os1.set (at_ + i) (addLo u y c)) from (HROW.out.drewN m).set (by rw [HO.out]; omega) (addLo_lt _ _ _))
      obtain ⟨m, hm⟩ : ∃ m, at_ + i = m := ⟨_, rfl⟩
      obtain ⟨h0m, h9m, hsl, hto⟩ := sum_small hat hlt hl
      obtain ⟨hw1, hw2⟩ := wraps_small h0m h9m
      have HIL := Lib.hid hlt
      rw [hm] at hto
      rw [hm] at hcg hfg HSN HGN HO2 HD2 HSTEP
      clear r1 HSET HGR2 HROW HGR HD HV HO
      subst hm
      clear h9m hat hl
      go_region_with (fail)
      all_goals
        clear hw1 hw2 hto h0m hsl ha hcg hfg
        go_wp2_with fail
        exact ⟨⟨i + 1, _, _, HIL.out, hc1, rfl, by go_num, HO2, Lib.hid (HSN.out _), Lib.hid (HGN.out _), HD2, HSTEP⟩, by have := HIL.out; simp [intOf]; omega⟩
    · obtain rfl : i = l2 := by omega
      have hiI : ¬ ((i : Int) < (i : Int)) := by omega
      go_wp2_with fail
      clear hi
      obtain ⟨wo, hwo⟩ : ∃ wo : World, wo = wr := ⟨_, rfl⟩
      subst hwo
      have hxs : xs.take i = xs := List.take_of_length_le (by rw [← HL2.out]; exact Nat.le_refl _)
      rw [hxs] at HV
      clear hxs
      go_loopw [6, 8] (fun t6 t8 wr => ∃ (j c : Nat) (os1 : List Nat), j ≤ lo ∧ c ≤ 1 ∧ t6 = .int .u64 (c : Int) ∧ t8 = .int .i64 (j : Int) ∧ Hid (os1.length = lo) ∧ Hid (Row wr g os1) ∧ Hid (Grew w wr g) ∧ Hid (os1.drop j = os.drop j) ∧ Hid (val (os1.take j) + W64 ^ j * c = val (os.take j) + W64 ^ at_ * val xs)) (fun _ t8 _ => lo - (intOf t8).toNat)
      case atStart => exact ⟨at_ + i, c, os1, by omega, hc, rfl, by go_num, HO, HROW, HGR, HD, HV⟩
      case round =>
        clear HO HROW HGR HD HV hc
        obtain ⟨j, c, os1, hj, hc, rfl, rfl, HO, HROW, HGR, HD, HV⟩ := hrel
        rcases Nat.eq_zero_or_pos c with hc0 | hc0
        · subst hc0
          have HFIN := Lib.hid (show val os1 = val os + W64 ^ at_ * val xs by
            have h1 := val_split os1 j (by rw [HO.out]; exact hj)
            have h2 := val_split os j (by rw [← HLO.out]; exact hj)
            have h3 := HV.out
            rw [HD.out] at h1
            rw [Nat.mul_zero, Nat.add_zero] at h3
            omega)
          go_wp2_with fail
          go_end0
          exact ⟨_, os1, rfl, HROW.out, HO.out, HFIN.out, HGR.out⟩
        · obtain rfl : c = 1 := by omega
          have hjl : j < lo := by
            rcases Nat.lt_or_ge j lo with h | h
            · exact h
            · exfalso
              obtain rfl : j = lo := by omega
              have h1 := HV.out
              rw [List.take_of_length_le (l := os1) (by rw [HO.out]; exact Nat.le_refl _), List.take_of_length_le (l := os) (by rw [← HLO.out]; exact Nat.le_refl _)] at h1
              have := HF.out
              omega
          obtain ⟨u, hu⟩ : ∃ u, os1.getD j 0 = u := ⟨_, rfl⟩
          have huW : u < W64 := hu ▸ HROW.out.small.getD j
          have hcg := HROW.out.cell (k := j) (by rw [HO.out]; omega)
          rw [hu] at hcg
          have hfg := HROW.out.free j
          have HSTEP := Lib.hid (show val ((os1.set j (addLo u 0 1)).take (j + 1)) + W64 ^ (j + 1) * addHi u 0 1 = val (os.take (j + 1)) + W64 ^ at_ * val xs by
            have hV := HV.out
            have hu2 : os.getD j 0 = u := by rw [← hu]; exact (getD_of_drop HD.out).symm
            rw [val_take_set os1 _ _ (by rw [HO.out]; omega), val_take_step os, hu2, Nat.pow_succ]
            have h5 : W64 ^ j * (addLo u 0 1 + W64 * addHi u 0 1) = W64 ^ j * (u + 0 + 1) := by rw [add_split]
            rw [Nat.mul_add, Nat.mul_add, Nat.add_zero, Nat.mul_one, ← Nat.mul_assoc] at h5
            rw [Nat.mul_one] at hV
            omega)
          have hc1 := addHi_le huW W64_pos (Nat.le_refl 1)
          have HSET := Lib.hid (HROW.out.set (k := j) (x := addLo u 0 1) (by rw [HO.out]; omega) (addLo_lt _ _ _))
          have HGR2 := Lib.hid (HGR.out.set (j) (.int .u64 (addLo u 0 1 : Nat)))
          have HO2 := Lib.hid (show (os1.set j (addLo u 0 1)).length = lo by rw [List.length_set, HO.out])
          have HD2 := Lib.hid (show (os1.set j (addLo u 0 1)).drop (j + 1) = os.drop (j + 1) by
            rw [List.drop_set_of_lt (by omega)]; exact drop_more HD.out 1)
          have ha := add64_run u 0 1 (Nat.le_refl 1)
          rw [Int.natCast_zero, Int.natCast_one] at ha
          have hjI : (j : Int) < (lo : Int) := by omega
          have HU := Lib.hid hu
          clear hu
          go_wp2_with fail
          exact ⟨⟨j + 1, _, _, by omega, hc1, rfl, by go_num, HO2, HSET, HGR2, HD2, HSTEP⟩, by simp [intOf]; omega⟩
end Go.Proofs.YtonbhpadoplpkaaGreat
/- The package times: take, sum. -/
namespace Go.Proofs.YtonbhpadoplpkaaGreat
open Go.RowKit Go.Deep
theorem borrow_step {a1 a2 a3 P d b u b' y W : Nat} (h : a1 + a3 = a2 + P * b) (hs : d + y + b = u + W * b') : a1 + P * d + (a3 + P * y) = a2 + P * u + P * W * b' := by
  have h5 : P * (d + y + b) = P * (u + W * b') := by rw [hs]
  grind
set_option maxHeartbeats 4000000 in
set_option maxRecDepth 100000 in
theorem times_take (g lo co : Nat) (os : List Nat) (A2 : Option Addr) (l2 c2 : Nat) (xs : List Nat) (w : World) (hrow0 : Row w g os) (h2 : Lim w w.heap.size A2 xs) (hne : 0 < xs.length → ∀ ad, A2 = some ad → ad.block ≠ g) (elo : lo = os.length) (el2 : l2 = xs.length) (hat : l2 ≤ lo) (hfit : val xs ≤ val os) (hl : lo ≤ 1099511627776) :
    Calls Tryz.prog 156 #[.slice (some ⟨g, 0, none⟩) lo co, .slice A2 l2 c2] w fun e w' => ∃ v os', e = .returned v ∧ Row w' g os' ∧ os'.length = lo ∧ val os' + val xs = val os ∧ Grew w w' g := by
  have HF := Lib.hid hfit
  have HLO := Lib.hid elo
  have HL2 := Lib.hid el2
  have hloI : (lo : Int) ≤ 1099511627776 := by omega
  have hatI : (l2 : Int) ≤ (lo : Int) := by omega
  have HAT := Lib.hid hat
  clear hfit elo el2 hat hl
  go_enter Tryz.func156, Tryz.ntmps156
  go_wp2_with fail
  go_loopw [4, 9] (fun t4 t9 wr => ∃ (i c : Nat) (os1 : List Nat), i ≤ l2 ∧ c ≤ 1 ∧ t4 = .int .u64 (c : Int) ∧ t9 = .int .i64 (i : Int) ∧ Hid (os1.length = lo) ∧ Hid (Row wr g os1) ∧ Hid (Grew w wr g) ∧ Hid (os1.drop i = os.drop i) ∧ Hid (val (os1.take i) + val (xs.take i) = val (os.take i) + W64 ^ i * c)) (fun _ t9 _ => l2 - (intOf t9).toNat)
  case atStart => exact ⟨0, 0, os, by omega, by omega, rfl, rfl, Lib.hid HLO.out.symm, Lib.hid hrow0, Lib.hid (Grew.refl _ _), Lib.hid rfl, Lib.hid (by simp)⟩
  case round =>
    obtain ⟨i, c, os1, hi, hc, rfl, rfl, HO, HROW, HGR, HD, HV⟩ := hrel
    by_cases hlt : i < l2
    · have HLV := Lib.hid (h2.off HGR.out.1 hne)
      obtain ⟨ad, rfl, hb2, hcell⟩ := HLV.out.at_ (k := i) (by rw [← HL2.out]; exact hlt)
      obtain ⟨y, hy⟩ : ∃ y, xs.getD i 0 = y := ⟨_, rfl⟩
      obtain ⟨u, hu⟩ : ∃ u, os1.getD i 0 = u := ⟨_, rfl⟩
      have hyW : y < W64 := hy ▸ h2.small.getD i
      have huW : u < W64 := hu ▸ HROW.out.small.getD i
      rw [hy] at hcell
      have hcg := HROW.out.cell (k := i) (by rw [HO.out]; have := HAT.out; omega)
      rw [hu] at hcg
      have hfg := HROW.out.free i
      have HSTEP := Lib.hid (show val ((os1.set i (subLo u y c)).take (i + 1)) + val (xs.take (i + 1)) = val (os.take (i + 1)) + W64 ^ (i + 1) * subHi u y c by
        have hV := HV.out
        have hu2 : os.getD i 0 = u := by rw [← hu]; exact (getD_of_drop HD.out).symm
        rw [val_take_set os1 _ _ (by rw [HO.out]; have := HAT.out; omega), val_take_step os, val_take_step xs, hy, hu2, Nat.pow_succ]
        exact borrow_step hV (sub_split huW hyW hc))
      have hc1 := subHi_le u y c
      have HO2 := Lib.hid (show (os1.set i (subLo u y c)).length = lo by rw [List.length_set, HO.out])
      have HD2 := Lib.hid (show (os1.set i (subLo u y c)).drop (i + 1) = os.drop (i + 1) by
        rw [List.drop_set_of_lt (by omega)]; exact drop_more HD.out 1)
      have ha := sub64_run u y c hc
      have r1 := later_cell hcell
      have r2 := later_cell hcg
      have hiI : (i : Int) < (l2 : Int) := by omega
      have hiI2 : (i : Int) < (lo : Int) := by omega
      have HU := Lib.hid (And.intro hu hy)
      clear hu hy
      go_wp2_with fail
      have HGN := Lib.hid (fun m => (HGR.out.drewN m).set (i) (.int .u64 (subLo u y c : Nat)))
      have HSN := Lib.hid (fun m => show Row ((wr.drewN m).setCell ⟨g, i, none⟩ (.int .u64 (subLo u y c : Nat))) g (os1.set i (subLo u y c)) from (HROW.out.drewN m).set (by rw [HO.out]; omega) (subLo_lt _ _ _))
      go_region_with (fail)
      all_goals
        go_wp2_with fail
        exact ⟨⟨i + 1, _, _, by omega, hc1, rfl, by go_num, HO2, Lib.hid (HSN.out _), Lib.hid (HGN.out _), HD2, HSTEP⟩, by simp [intOf]; omega⟩
    · obtain rfl : i = l2 := by omega
      have hiI : ¬ ((i : Int) < (i : Int)) := by omega
      go_wp2_with fail
      clear hi
      obtain ⟨wo, hwo⟩ : ∃ wo : World, wo = wr := ⟨_, rfl⟩
      subst hwo
      have hxs : xs.take i = xs := List.take_of_length_le (by rw [← HL2.out]; exact Nat.le_refl _)
      rw [hxs] at HV
      clear hxs
      go_loopw [4, 6] (fun t6 t8 wr => ∃ (j c : Nat) (os1 : List Nat), j ≤ lo ∧ c ≤ 1 ∧ t6 = .int .u64 (c : Int) ∧ t8 = .int .i64 (j : Int) ∧ Hid (os1.length = lo) ∧ Hid (Row wr g os1) ∧ Hid (Grew w wr g) ∧ Hid (os1.drop j = os.drop j) ∧ Hid (val (os1.take j) + val xs = val (os.take j) + W64 ^ j * c)) (fun _ t8 _ => lo - (intOf t8).toNat)
      case atStart => exact ⟨i, c, os1, HAT.out, hc, rfl, rfl, HO, HROW, HGR, HD, HV⟩
      case round =>
        clear HO HROW HGR HD HV hc
        obtain ⟨j, c, os1, hj, hc, rfl, rfl, HO, HROW, HGR, HD, HV⟩ := hrel
        rcases Nat.eq_zero_or_pos c with hc0 | hc0
        · subst hc0
          have HFIN := Lib.hid (show val os1 + val xs = val os by
            have h1 := val_split os1 j (by rw [HO.out]; exact hj)
            have h2 := val_split os j (by rw [← HLO.out]; exact hj)
            have h3 := HV.out
            rw [HD.out] at h1
            rw [Nat.mul_zero, Nat.add_zero] at h3
            omega)
          go_wp2_with fail
          go_end0
          exact ⟨_, os1, rfl, HROW.out, HO.out, HFIN.out, HGR.out⟩
        · obtain rfl : c = 1 := by omega
          have hjl : j < lo := by
            rcases Nat.lt_or_ge j lo with h | h
            · exact h
            · exfalso
              obtain rfl : j = lo := by omega
              have h1 := HV.out
              rw [List.take_of_length_le (l := os1) (by rw [HO.out]; exact Nat.le_refl _), List.take_of_length_le (l := os) (by rw [← HLO.out]; exact Nat.le_refl _)] at h1
              have h3 := val_lt HROW.out.small
              rw [HO.out] at h3
              have := HF.out
              omega
          obtain ⟨u, hu⟩ : ∃ u, os1.getD j 0 = u := ⟨_, rfl⟩
          have huW : u < W64 := hu ▸ HROW.out.small.getD j
          have hcg := HROW.out.cell (k := j) (by rw [HO.out]; exact hjl)
          rw [hu] at hcg
          have hfg := HROW.out.free j
          have HSTEP := Lib.hid (show val ((os1.set j (subLo u 0 1)).take (j + 1)) + val xs = val (os.take (j + 1)) + W64 ^ (j + 1) * subHi u 0 1 by
            have hV := HV.out
            have hu2 : os.getD j 0 = u := by rw [← hu]; exact (getD_of_drop HD.out).symm
            rw [val_take_set os1 _ _ (by rw [HO.out]; exact hjl), val_take_step os, hu2, Nat.pow_succ]
            have h6 := borrow_step hV (sub_split huW W64_pos (Nat.le_refl 1))
            rwa [Nat.mul_zero, Nat.add_zero] at h6)
          have hc1 := subHi_le u 0 1
          have HSET := Lib.hid (HROW.out.set (k := j) (x := subLo u 0 1) (by rw [HO.out]; exact hjl) (subLo_lt _ _ _))
          have HGR2 := Lib.hid (HGR.out.set (j) (.int .u64 (subLo u 0 1 : Nat)))
          have HO2 := Lib.hid (show (os1.set j (subLo u 0 1)).length = lo by rw [List.length_set, HO.out])
          have HD2 := Lib.hid (show (os1.set j (subLo u 0 1)).drop (j + 1) = os.drop (j + 1) by
            rw [List.drop_set_of_lt (by omega)]; exact drop_more HD.out 1)
          have ha := sub64_run u 0 1 (Nat.le_refl 1)
          rw [Int.natCast_zero, Int.natCast_one] at ha
          have hjI : (j : Int) < (lo : Int) := by omega
          have HU := Lib.hid hu
          clear hu
          go_wp2_with fail
          exact ⟨⟨j + 1, _, _, by omega, hc1, rfl, by go_num, HO2, HSET, HGR2, HD2, HSTEP⟩, by simp [intOf]; omega⟩
theorem zeros_cells (n : Nat) : (madeCells #[.int .u64 0] n : Array Value) = (nums (List.replicate n 0)).toArray := by
  apply Array.ext'
  rw [toList_madeCells_one]
  simp [nums]
section
variable {ops : Array Oper} {rest : List Oper} {o : Oper} {a : Act} {Q : Exit → Act → World → Prop}
/-- copy(out, x): out is new, all noughts. -/
theorem copy_made {w0 W : World} {B0 B : Nat} (hgd : o.guard = none) (d s : Operand)
    (ho : o.op = .call { callee := .builtin .copy, args := #[d, s], argTypes := #[22, 22] })
    (g n c : Nat) (A : Option Addr) (l cs : Nat) (xs : List Nat) (hd : a.eval d = .slice (some ⟨g, 0, none⟩) n c) (hs : a.eval s = .slice A l cs)
    (hrow : W.heap[g]? = some (.cells (madeCells #[.int .u64 0] n) 85 (0, 0))) (hl : l = xs.length) (hle : l ≤ n) (hlim : Lim W B A xs) (hb : Below B0 w0 W) (hBg : B0 ≤ g)
    (h : ∀ w' u, Row w' g (xs ++ List.replicate (n - l) 0) → Fresh w' g (some ⟨g, 0, none⟩) n → Below B0 w0 w' → wpList Tryz.prog ops Q rest (a.put o.dst u) w') :
    wpList Tryz.prog ops Q (o :: rest) a W := by
  subst hl
  rw [zeros_cells] at hrow
  obtain ⟨i0, hi, hz0, hz1, hz2⟩ := info_parts info_u64
  refine wpList_copy_splice hgd d s 22 22 ho 85 Tryz.underlying22 (by rw [hi]; simp [hz1]) _ A n c xs.length cs hd hs g 0 (nums (List.replicate n 0)) 85 hrow (nums xs) (by rw [nums_length]; exact (Nat.min_eq_left hle).symm) (fun hp => ?_) (by rw [nums_length, nums_length]; simp; omega) (fun v hv => ?_) B0 w0 hb hBg fun w' hw hb' => ?_
  · rw [nums_length] at hp
    obtain ⟨ad, ha, _, hc⟩ := hlim.cells hp
    refine ⟨rfl, ad, ha, fun j v hj => ?_⟩
    have hjl : j < xs.length := by have := (List.getElem?_eq_some_iff.1 hj).1; simpa [nums] using this
    rw [hc j hjl, ← hj]
    simp [nums, hjl]
  · obtain ⟨y, _, rfl⟩ := List.mem_map.1 hv
    rfl
  · have hw := hw.out
    have e : splice (nums (List.replicate n 0)) 0 (nums xs) = nums (xs ++ List.replicate (n - xs.length) 0) := by
      simp [splice, nums, List.drop_replicate]
    rw [e] at hw
    refine h w' _ ⟨hlim.small.append (Small.zeros _), _, _, hw, by simp [nums], fun i hi => ?_⟩ (.inr ⟨g, _, rfl, Nat.le_refl _, hw, by simp [nums]; omega⟩) hb'
    rw [List.getElem?_toArray]
    simp only [nums, List.getElem?_map, List.getD_eq_getElem?_getD]
    rw [List.getElem?_eq_getElem hi]
    rfl
end
theorem sum_fits {xs ys : List Nat} (hx : Small xs) (hy : Small ys) {m : Nat} (h1 : xs.length ≤ m) (h2 : ys.length ≤ m) : val xs + val ys < W64 ^ (m + 1) := by
  have a := val_lt hx
  have b := val_lt hy
  have c : W64 ^ xs.length ≤ W64 ^ m := Nat.pow_le_pow_right W64_pos h1
  have d : W64 ^ ys.length ≤ W64 ^ m := Nat.pow_le_pow_right W64_pos h2
  have e : 2 * W64 ^ m ≤ W64 ^ (m + 1) := by
    rw [Nat.pow_succ, Nat.mul_comm 2]
    exact Nat.mul_le_mul_left _ (by rw [W64_eq]; omega)
  omega
theorem Lim.far {w : World} {B g : Nat} {A : Option Addr} {xs : List Nat} (h : Lim w B A xs) (hg : B ≤ g) (hn : 0 < xs.length) (ad : Addr) (e : A = some ad) : ad.block ≠ g := by
  obtain ⟨a, ha, hb, _⟩ := h.cells hn
  rw [ha] at e
  injection e with e
  subst e
  omega
set_option maxHeartbeats 1000000 in
set_option maxRecDepth 100000 in
theorem times_sum (A1 A2 : Option Addr) (l1 l2 c1 c2 : Nat) (xs ys : List Nat) (w : World) (h1 : Lim w w.heap.size A1 xs) (h2 : Lim w w.heap.size A2 ys) (e1 : l1 = xs.length) (e2 : l2 = ys.length) (hl1 : l1 ≤ 274877906944) (hl2 : l2 ≤ 274877906944) :
    Calls Tryz.prog 155 #[.slice A1 l1 c1, .slice A2 l2 c2] w fun e w' => ∃ A c, e = .returned (.slice A (limbs (val xs + val ys)).length c) ∧ (limbs (val xs + val ys)).length ≤ c ∧ Lim w' w'.heap.size A (limbs (val xs + val ys)) ∧ Fresh w' w.heap.size A c ∧ Below w.heap.size w w' := by
  obtain ⟨m, hm⟩ : ∃ m, max l1 l2 = m := ⟨_, rfl⟩
  have hmI : max (l1 : Int) (l2 : Int) = (m : Int) := by omega
  have hmk := make_limbs_succ m (by omega)
  have mI : (m : Int) ≤ 274877906944 := by omega
  have HM := Lib.hid (show l1 ≤ m ∧ l2 ≤ m ∧ m ≤ 274877906944 by omega)
  have H1 := Lib.hid h1
  have H2 := Lib.hid h2
  have E1 := Lib.hid e1
  have E2 := Lib.hid e2
  clear h1 h2 e1 e2 hl1 hl2 hm
  go_enter Tryz.func155, Tryz.ntmps155
  go_upto_region 2 with (fail)
  obtain ⟨W0, g, hW0, hg⟩ : ∃ W g, w.alloc (.cells (madeCells #[.int .u64 0] (m + 1)) 85) = W ∧ w.heap.size = g := ⟨_, _, rfl, rfl⟩
  have hb0 : Below w.heap.size w W0 := by rw [← hW0]; exact (Below.refl _ _).alloc (Nat.le_refl _) _
  have HROW := Lib.hid (show W0.heap[g]? = some (.cells (madeCells #[.int .u64 0] (m + 1)) 85 (0, 0)) by rw [← hW0, ← hg]; exact heap_alloc_new w _)
  have HG := Lib.hid (show w.heap.size ≤ g by omega)
  have HB := Lib.hid hb0
  rw [hW0, hg]
  clear hW0 hg hb0 hmk hmI
  go_wp2_with (refine copy_made (w0 := w) (B0 := w.heap.size) rfl (.tmp 13) (.tmp 14) rfl g (m + 1) (m + 1) A1 l1 c1 xs (by rfl) (by rfl) HROW.out E1.out (by have := HM.out; omega) (H1.out.below HB.out) HB.out HG.out fun w1 u1 hr hf hb => ?_)
  have HR := Lib.hid hr
  have HFR := Lib.hid hf
  replace HB := Lib.hid hb
  clear hr hf hb
  go_wp2_with fail
  have HLEN := Lib.hid (show m + 1 = (xs ++ List.replicate (m + 1 - l1) 0).length by rw [List.length_append, List.length_replicate, ← E1.out]; have := HM.out; omega)
  have HV := Lib.hid (show val (xs ++ List.replicate (m + 1 - l1) 0) = val xs by rw [val_append, val_zeros, Nat.mul_zero, Nat.add_zero])
  have C := times_put g (m + 1) (m + 1) 0 _ A2 l2 c2 ys w1 HR.out ((H2.out.below HB.out).more HB.out.size) (H2.out.far HG.out) HLEN.out E2.out (by have := HM.out; omega) (by
    rw [HV.out, Nat.pow_zero, Nat.one_mul]
    exact sum_fits H1.out.small H2.out.small (by rw [← E1.out]; exact HM.out.1) (by rw [← E2.out]; exact HM.out.2.1)) (by have := HM.out; omega)
  rw [Int.natCast_zero] at C
  refine C.mono ?_
  rintro e w2 ⟨v, os, rfl, hrow, hlen, hval, hgr⟩
  rw [HV.out, Nat.pow_zero, Nat.one_mul] at hval
  have HR2 := Lib.hid hrow
  have HL2 := Lib.hid hlen
  have HV2 := Lib.hid hval
  have HB2 := Lib.hid (below_grown HB.out HB.out.size hgr.1 HG.out)
  have HF2 := Lib.hid (show Fresh w2 g (some ⟨g, 0, none⟩) (m + 1) from hgr.2 _ _ HFR.out)
  clear C hrow hlen hval hgr
  go_wp2_with fail
  have T := times_trim (some ⟨g, 0, none⟩) (m + 1) os w2 HR2.out.lim' (by rw [HL2.out]; exact Nat.le_refl _) (by rw [HL2.out]; have := HM.out; omega)
  rw [HL2.out, HV2.out] at T
  refine T.mono ?_
  rintro e w3 ⟨rfl, rfl⟩
  clear T
  go_wp2_with fail
  go_ret
  have hl3 := limbs_val_le HR2.out.small
  have ht := HR2.out.lim'.trim
  rw [HV2.out] at hl3 ht
  exact ⟨_, _, rfl, by rw [← HL2.out]; exact hl3, ht, HF2.out.since HG.out, HB2.out⟩
end Go.Proofs.YtonbhpadoplpkaaGreat
/- The package times: halves, deep, of any length. -/
namespace Go.Proofs.YtonbhpadoplpkaaGreat
open Go.RowKit Go.Deep
/-- What a product by halves tells. -/
def ProdPost (w : World) (e : Ending) (w' : World) (n : Nat) : Prop := ∃ A c, e = .returned (.slice A (limbs n).length c) ∧ (limbs n).length ≤ c ∧ Lim w' w'.heap.size A (limbs n) ∧ Fresh w' w.heap.size A c ∧ Below w.heap.size w w'
def wayF (d g : Nat) : Value := .func (.func 120) #[] #[.pointer (some ⟨d, 0, none⟩), .pointer (some ⟨g, 0, none⟩)]
/-- The closure's cells. -/
structure WayC (w : World) (d g : Nat) : Prop where
  cd : w.cell? ⟨d, 0, none⟩ = some (.int .i64 24)
  cg : w.cell? ⟨g, 0, none⟩ = some (wayF d g)
theorem WayC.stay {w w' : World} {d g : Nat} (h : WayC w d g) (hb : Below w.heap.size w w') : WayC w' d g :=
  ⟨by rw [hb.cell (World.block_lt_of_cell? w _ h.cd)]; exact h.cd, by rw [hb.cell (World.block_lt_of_cell? w _ h.cg)]; exact h.cg⟩
/-- The way serves numbers of so many limbs. -/
def Way (m d g : Nat) : Prop := ∀ (A1 A2 : Option Addr) (l1 l2 c1 c2 : Nat) (xs ys : List Nat) (W : World), Lim W W.heap.size A1 xs → Lim W W.heap.size A2 ys → l1 = xs.length → l2 = ys.length → l1 ≤ c1 → l2 ≤ c2 → l1 ≤ m → l2 ≤ m → WayC W d g →
  Calls Tryz.prog 120 #[.slice A1 l1 c1, .slice A2 l2 c2, .pointer (some ⟨d, 0, none⟩), .pointer (some ⟨g, 0, none⟩)] W fun e w' => ProdPost W e w' (val xs * val ys)
theorem split_half {xs : List Nat} {n p : Nat} (hp : p = min n xs.length) : val xs = val (xs.take p) + W64 ^ n * val (xs.drop p) := by
  have h := val_split xs p (by omega)
  rcases Nat.lt_or_ge xs.length n with h1 | h1
  · have e : p = xs.length := by omega
    subst e
    rw [List.drop_length, val_nil, Nat.mul_zero] at *
    rw [List.take_length]; rfl
  · have e : p = n := by omega
    rw [e] at h ⊢
    exact h
theorem Fresh.ne {w : World} {base g c : Nat} {A : Option Addr} (h : Fresh w base A c) (hg : g < base) {ad : Addr} (e : A = some ad) : ad.block ≠ g := by
  rcases h with ⟨h1, _⟩ | ⟨k, cs, h1, h2, _, _⟩
  · rw [h1] at e; cases e
  · rw [h1] at e
    injection e with e
    subst e
    show k ≠ g
    omega
theorem Lim.below' {w w' : World} {B : Nat} {A : Option Addr} {xs : List Nat} (h : Lim w B A xs) (hb : Below B w w') : Lim w' B A xs := h.below hb
theorem kar_nums {a b c f n : Nat} (_h : b < W64 ^ n ∧ f < W64 ^ n ∧ a < W64 ^ n ∧ c < W64 ^ n) : a * c ≤ (a + b) * (c + f) ∧ b * f + a * c ≤ (a + b) * (c + f) := by
  have e : (a + b) * (c + f) = a * c + a * f + b * c + b * f := by grind
  rw [e]
  omega
theorem kar_prod {a b c f n M : Nat} (h : b < W64 ^ n ∧ f < W64 ^ n ∧ a < W64 ^ n ∧ c < W64 ^ n) (hM : M + b * f + a * c = (a + b) * (c + f)) :
    a * c + W64 ^ n * M + W64 ^ (2 * n) * (b * f) = (a + W64 ^ n * b) * (c + W64 ^ n * f) ∧ a * c + W64 ^ n * M + W64 ^ (2 * n) * (b * f) < W64 ^ (4 * n + 4) := by
  have e : M = a * f + b * c := by
    have e2 : (a + b) * (c + f) = a * c + a * f + b * c + b * f := by grind
    omega
  have e3 : a * c + W64 ^ n * M + W64 ^ (2 * n) * (b * f) = (a + W64 ^ n * b) * (c + W64 ^ n * f) := by
    rw [e, show 2 * n = n + n by omega, Nat.pow_add]
    generalize W64 ^ n = P
    grind
  refine ⟨e3, ?_⟩
  rw [e3]
  have k1 : a + W64 ^ n * b < W64 ^ n * W64 ^ n := by
    have := Nat.mul_le_mul_left (W64 ^ n) (show b + 1 ≤ W64 ^ n from h.1)
    rw [Nat.mul_add, Nat.mul_one] at this
    omega
  have k2 : c + W64 ^ n * f < W64 ^ n * W64 ^ n := by
    have := Nat.mul_le_mul_left (W64 ^ n) (show f + 1 ≤ W64 ^ n from h.2.1)
    rw [Nat.mul_add, Nat.mul_one] at this
    omega
  have k3 := Nat.mul_lt_mul_of_lt_of_lt k1 k2
  refine Nat.lt_of_lt_of_le k3 ?_
  rw [← Nat.pow_add, ← Nat.pow_add]
  exact Nat.pow_le_pow_right W64_pos (by omega)
/-- How long the products are. -/
theorem kar_sizes {a b c f n : Nat} (h : b < W64 ^ n ∧ f < W64 ^ n ∧ a < W64 ^ n ∧ c < W64 ^ n) : lc (a * c) ≤ 2 * n ∧ lc (b * f) ≤ 2 * n ∧ lc (a + b) ≤ n + 1 ∧ lc (c + f) ≤ n + 1 ∧ lc ((a + b) * (c + f)) ≤ 2 * n + 2 := by
  have h1 := lc_le.2 h.2.2.1
  have h2 := lc_le.2 h.2.2.2
  have h3 := lc_le.2 h.1
  have h4 := lc_le.2 h.2.1
  have m1 := lc_mul a c
  have m2 := lc_mul b f
  have s1 := lc_add a b
  have s2 := lc_add c f
  have m3 := lc_mul (a + b) (c + f)
  omega
set_option maxHeartbeats 4000000 in
set_option maxRecDepth 100000 in
theorem times_halves (m d g : Nat) (IH : Way m d g) (A1 A2 : Option Addr) (l1 l2 c1 c2 : Nat) (xs ys : List Nat) (w : World) (h1 : Lim w w.heap.size A1 xs) (h2 : Lim w w.heap.size A2 ys) (e1 : l1 = xs.length) (e2 : l2 = ys.length) (hc1 : l1 ≤ c1) (hc2 : l2 ≤ c2) (p1 : 0 < l1) (p2 : 0 < l2) (hm : (max l1 l2 + 1) / 2 + 1 ≤ m) (hl1 : l1 ≤ 17179869184) (hl2 : l2 ≤ 17179869184) (hw : WayC w d g) :
    Calls Tryz.prog 122 #[.slice A1 l1 c1, .slice A2 l2 c2, wayF d g] w fun e w' => ProdPost w e w' (val xs * val ys) := by
  obtain ⟨m0, hm0⟩ : ∃ m0, max l1 l2 = m0 := ⟨_, rfl⟩
  obtain ⟨n, hn⟩ : ∃ n, (m0 + 1) / 2 = n := ⟨_, rfl⟩
  have hmI : max (l1 : Int) (l2 : Int) = (m0 : Int) := by omega
  have hnI : ((m0 : Int) + 1) / 2 = (n : Int) := by omega
  obtain ⟨p, hp⟩ : ∃ p, min n l1 = p := ⟨_, rfl⟩
  obtain ⟨q, hq⟩ : ∃ q, min n l2 = q := ⟨_, rfl⟩
  have hpI : min (n : Int) (l1 : Int) = (p : Int) := by omega
  have hqI : min (n : Int) (l2 : Int) = (q : Int) := by omega
  have m0I : (m0 : Int) ≤ 17179869184 := by omega
  have nI : (n : Int) ≤ 17179869184 := by omega
  have HN := Lib.hid (show n + 1 ≤ m ∧ l1 ≤ 2 * n ∧ l2 ≤ 2 * n ∧ p ≤ n ∧ q ≤ n ∧ l1 - p ≤ n ∧ l2 - q ≤ n ∧ p ≤ l1 ∧ q ≤ l2 ∧ n ≤ 17179869184 by rw [hm0, hn] at hm; omega)
  have HX := Lib.hid (split_half (xs := xs) (n := n) (p := p) (by rw [← hp, e1]))
  have HY := Lib.hid (split_half (xs := ys) (n := n) (p := q) (by rw [← hq, e2]))
  obtain ⟨ad1, rfl, _, _⟩ := h1.at_ (k := 0) (by omega)
  obtain ⟨ad2, rfl, _, _⟩ := h2.at_ (k := 0) (by omega)
  have H1 := Lib.hid h1
  have H2 := Lib.hid h2
  have E1 := Lib.hid e1
  have E2 := Lib.hid e2
  have HC := Lib.hid (And.intro hc1 hc2)
  have HW := Lib.hid hw
  have HIH := Lib.hid IH
  have hpN : min n l1 = p := hp
  have hqN : min n l2 = q := hq
  have pI : (p : Int) ≤ (c1 : Int) := by omega
  have qI : (q : Int) ≤ (c2 : Int) := by omega
  have pJ : (p : Int) ≤ (l1 : Int) := by omega
  have qJ : (q : Int) ≤ (l2 : Int) := by omega
  clear h1 h2 e1 e2 hc1 hc2 p1 p2 hm hl1 hl2 hw hm0 hn hp hq IH
  unfold wayF
  go_enter Tryz.func122, Tryz.ntmps122
  go_upto_region 2 with (fail)
  rw [hnI]
  clear hmI hnI
  go_cut [8, 9] (fun t8 t9 wx => ∃ (AX : Option Addr) (cX : Nat), t8 = .slice (some ad1) (limbs (val (xs.take p))).length c1 ∧ t9 = .slice AX (l1 - p) cX ∧ Hid (l1 - p ≤ cX) ∧ Hid (Lim wx wx.heap.size AX (xs.drop p)) ∧ Hid (Since w wx))
  case first =>
    by_cases hcp : c1 = p
    · have hle : l1 = c1 := by have := HN.out; have := HC.out; omega
      subst hcp
      have HLL := Lib.hid (show (xs).drop c1 = [] by rw [List.drop_of_length_le (by rw [← E1.out]; omega)])
      have HTR := Lib.hid (fun W (h : Lim W (w).heap.size (some ad1) ((xs).take c1)) => times_trim (some ad1) c1 ((xs).take c1) W h (by rw [List.length_take]; omega) (by rw [List.length_take]; have := HN.out; have := E1.out; omega))
      have hlt : ((xs).take c1).length = c1 := by rw [List.length_take, ← E1.out]; omega
      rw [hlt] at HTR
      clear hlt hle
      refine wp_region_stages (fun w' => ∃ k, w' = (w).drewN k) [(false, 0), (false, 1), (false, 2), (false, 3), (false, 4), (false, 5), (false, 7), (false, 8), (false, 9), (false, 10), (false, 11), (false, 12), (true, 6), (false, 13), (false, 14)] 15 [.reads [_, _, _, _, _, _, _, _, _, _, _, _], .loud _, .reads [_, _]] [] (by kernel_rfl) (by kernel_rfl) rfl rfl ?_ ?_
      · exact ⟨1, rfl⟩
      refine wpStages_reads ?_
      repeat (go_big_quiet_step (fail))
      refine wpQuiet_nil ?_
      refine wpStages_loud rfl ?_
      intro K hK
      go_big_op
      refine (HTR.out _ ((H1.out.take c1).drewN 1)).mono ?_
      rintro e w1 ⟨rfl, rfl⟩
      refine hK _ _ ⟨1, rfl⟩ ?_
      clear hK K
      refine wpStages_reads ?_
      repeat (go_big_quiet_step (fail))
      refine wpQuiet_nil ?_
      refine wpStages_nil ?_
      go_wp2_with fail
      go_meet
      exact ⟨some ad1, 0, rfl, rfl, Lib.hid (by have := HN.out; have := HC.out; omega), Lib.hid (by rw [HLL.out]; exact Lim.nil _ _ _), Lib.hid (below_drewN (Below.refl _ _) 1)⟩
    · have HCP := Lib.hid hcp
      have HTR := Lib.hid (fun W (h : Lim W (w).heap.size (some ad1) ((xs).take p)) => times_trim (some ad1) c1 ((xs).take p) W h (by rw [List.length_take]; have := HN.out; have := HC.out; omega) (by rw [List.length_take]; have := HN.out; have := E1.out; omega))
      have hlt : ((xs).take p).length = p := by rw [List.length_take, ← E1.out]; have := HN.out; omega
      rw [hlt] at HTR
      clear hlt
      refine wp_region_stages (fun w' => ∃ k, w' = (w).drewN k) [(false, 0), (false, 1), (false, 2), (false, 3), (false, 4), (false, 5), (false, 7), (false, 8), (false, 9), (false, 10), (false, 11), (false, 12), (true, 6), (false, 13), (false, 14)] 15 [.reads [_, _, _, _, _, _, _, _, _, _, _, _], .loud _, .reads [_, _]] [] (by kernel_rfl) (by kernel_rfl) rfl rfl ?_ ?_
      · exact ⟨1, rfl⟩
      refine wpStages_reads ?_
      repeat (go_big_quiet_step (fail))
      refine wpQuiet_nil ?_
      refine wpStages_loud rfl ?_
      intro K hK
      go_big_op
      refine (HTR.out _ ((H1.out.take p).drewN 1)).mono ?_
      rintro e w1 ⟨rfl, rfl⟩
      refine hK _ _ ⟨1, rfl⟩ ?_
      clear hK K
      refine wpStages_reads ?_
      repeat (go_big_quiet_step (fail))
      refine wpQuiet_nil ?_
      refine wpStages_nil ?_
      go_wp2_with fail
      go_meet
      have hcut := H1.out.cut (k := p) (cap := c1) (by rw [← E1.out]; have := HC.out; omega)
      rw [if_neg HCP.out] at hcut
      exact ⟨some ((ad1).add p), c1 - p, rfl, rfl, Lib.hid (by have := HN.out; have := HC.out; omega), Lib.hid (hcut.drewN 1), Lib.hid (below_drewN (Below.refl _ _) 1)⟩
  case rest =>
    clear hpI hpN pI pJ
    obtain ⟨AX, cX, rfl, rfl, HCX, HX1, HB⟩ := hcut
    have HX0 := Lib.hid (H1.out.stay HB.out)
    replace H2 := Lib.hid (H2.out.stay HB.out)
    replace HW := Lib.hid (HW.out.stay HB.out)
    go_upto_region 3 with (fail)
    go_cut [10, 11] (fun t8 t9 wx => ∃ (AY : Option Addr) (cY : Nat), t8 = .slice (some ad2) (limbs (val (ys.take q))).length c2 ∧ t9 = .slice AY (l2 - q) cY ∧ Hid (l2 - q ≤ cY) ∧ Hid (Lim wx wx.heap.size AY (ys.drop q)) ∧ Hid (Since wc wx))
    case first =>
      by_cases hcp : c2 = q
      · have hle : l2 = c2 := by have := HN.out; have := HC.out; omega
        subst hcp
        have HLL := Lib.hid (show (ys).drop c2 = [] by rw [List.drop_of_length_le (by rw [← E2.out]; omega)])
        have HTR := Lib.hid (fun W (h : Lim W (wc).heap.size (some ad2) ((ys).take c2)) => times_trim (some ad2) c2 ((ys).take c2) W h (by rw [List.length_take]; omega) (by rw [List.length_take]; have := HN.out; have := E2.out; omega))
        have hlt : ((ys).take c2).length = c2 := by rw [List.length_take, ← E2.out]; omega
        rw [hlt] at HTR
        clear hlt hle
        refine wp_region_stages (fun w' => ∃ k, w' = (wc).drewN k) [(false, 0), (false, 1), (false, 2), (false, 3), (false, 4), (false, 5), (false, 7), (false, 8), (false, 9), (false, 10), (false, 11), (false, 12), (true, 6), (false, 13), (false, 14)] 15 [.reads [_, _, _, _, _, _, _, _, _, _, _, _], .loud _, .reads [_, _]] [] (by kernel_rfl) (by kernel_rfl) rfl rfl ?_ ?_
        · exact ⟨1, rfl⟩
        refine wpStages_reads ?_
        repeat (go_big_quiet_step (fail))
        refine wpQuiet_nil ?_
        refine wpStages_loud rfl ?_
        intro K hK
        go_big_op
        refine (HTR.out _ ((H2.out.take c2).drewN 1)).mono ?_
        rintro e w1 ⟨rfl, rfl⟩
        refine hK _ _ ⟨1, rfl⟩ ?_
        clear hK K
        refine wpStages_reads ?_
        repeat (go_big_quiet_step (fail))
        refine wpQuiet_nil ?_
        refine wpStages_nil ?_
        go_wp2_with fail
        go_meet
        exact ⟨some ad2, 0, rfl, rfl, Lib.hid (by have := HN.out; have := HC.out; omega), Lib.hid (by rw [HLL.out]; exact Lim.nil _ _ _), Lib.hid (below_drewN (Below.refl _ _) 1)⟩
      · have HCP := Lib.hid hcp
        have HTR := Lib.hid (fun W (h : Lim W (wc).heap.size (some ad2) ((ys).take q)) => times_trim (some ad2) c2 ((ys).take q) W h (by rw [List.length_take]; have := HN.out; have := HC.out; omega) (by rw [List.length_take]; have := HN.out; have := E2.out; omega))
        have hlt : ((ys).take q).length = q := by rw [List.length_take, ← E2.out]; have := HN.out; omega
        rw [hlt] at HTR
        clear hlt
        refine wp_region_stages (fun w' => ∃ k, w' = (wc).drewN k) [(false, 0), (false, 1), (false, 2), (false, 3), (false, 4), (false, 5), (false, 7), (false, 8), (false, 9), (false, 10), (false, 11), (false, 12), (true, 6), (false, 13), (false, 14)] 15 [.reads [_, _, _, _, _, _, _, _, _, _, _, _], .loud _, .reads [_, _]] [] (by kernel_rfl) (by kernel_rfl) rfl rfl ?_ ?_
        · exact ⟨1, rfl⟩
        refine wpStages_reads ?_
        repeat (go_big_quiet_step (fail))
        refine wpQuiet_nil ?_
        refine wpStages_loud rfl ?_
        intro K hK
        go_big_op
        refine (HTR.out _ ((H2.out.take q).drewN 1)).mono ?_
        rintro e w1 ⟨rfl, rfl⟩
        refine hK _ _ ⟨1, rfl⟩ ?_
        clear hK K
        refine wpStages_reads ?_
        repeat (go_big_quiet_step (fail))
        refine wpQuiet_nil ?_
        refine wpStages_nil ?_
        go_wp2_with fail
        go_meet
        have hcut := H2.out.cut (k := q) (cap := c2) (by rw [← E2.out]; have := HC.out; omega)
        rw [if_neg HCP.out] at hcut
        exact ⟨some ((ad2).add q), c2 - q, rfl, rfl, Lib.hid (by have := HN.out; have := HC.out; omega), Lib.hid (hcut.drewN 1), Lib.hid (below_drewN (Below.refl _ _) 1)⟩
    case rest =>
      clear hqI hqN qI qJ
      obtain ⟨AY, cY, rfl, rfl, HCY, HY1, HB2⟩ := hcut
      have HY0 := Lib.hid (H2.out.stay HB2.out)
      replace HX0 := Lib.hid (HX0.out.stay HB2.out)
      replace HX1 := Lib.hid (HX1.out.stay HB2.out)
      replace HW := Lib.hid (HW.out.stay HB2.out)
      replace HB := Lib.hid (HB.out.stay HB2.out)
      clear HB2 H1 H2
      have HXT := Lib.hid (show Lim wc wc.heap.size (some ad1) (limbs (val (xs.take p))) from (HX0.out.take p).trim)
      have HYT := Lib.hid (show Lim wc wc.heap.size (some ad2) (limbs (val (ys.take q))) from (HY0.out.take q).trim)
      have HSX := Lib.hid (show (xs.drop p).length = l1 - p ∧ (limbs (val (xs.take p))).length ≤ n ∧ (limbs (val (xs.take p))).length ≤ c1 by
        have h1 := limbs_val_le (HX0.out.small.take p)
        rw [List.length_take] at h1
        have h2 := HN.out
        have h3 := HC.out
        rw [List.length_drop, E1.out]
        refine ⟨rfl, by omega, by have := E1.out; omega⟩)
      have HSY := Lib.hid (show (ys.drop q).length = l2 - q ∧ (limbs (val (ys.take q))).length ≤ n ∧ (limbs (val (ys.take q))).length ≤ c2 by
        have h1 := limbs_val_le (HY0.out.small.take q)
        rw [List.length_take] at h1
        have h2 := HN.out
        have h3 := HC.out
        rw [List.length_drop, E2.out]
        refine ⟨rfl, by omega, by have := E2.out; omega⟩)
      obtain ⟨a, ha⟩ : ∃ a, val (xs.take p) = a := ⟨_, rfl⟩
      obtain ⟨b, hb⟩ : ∃ b, val (xs.drop p) = b := ⟨_, rfl⟩
      obtain ⟨c, hc⟩ : ∃ c, val (ys.take q) = c := ⟨_, rfl⟩
      obtain ⟨f, hf⟩ : ∃ f, val (ys.drop q) = f := ⟨_, rfl⟩
      rw [ha] at HXT HSX HX ⊢
      rw [hb] at HX
      rw [hc] at HYT HSY HY ⊢
      rw [hf] at HY
      have HBD := Lib.hid (show b < W64 ^ n ∧ f < W64 ^ n ∧ a < W64 ^ n ∧ c < W64 ^ n by
        have h1 := HN.out
        refine ⟨?_, ?_, lc_le.1 HSX.out.2.1, lc_le.1 HSY.out.2.1⟩
        · rw [← hb]; exact Nat.lt_of_lt_of_le (val_lt HX1.out.small) (Nat.pow_le_pow_right W64_pos (by rw [HSX.out.1]; omega))
        · rw [← hf]; exact Nat.lt_of_lt_of_le (val_lt HY1.out.small) (Nat.pow_le_pow_right W64_pos (by rw [HSY.out.1]; omega)))
      have HBV := Lib.hid (And.intro hb hf)
      clear ha hb hc hf HX0 HY0
      go_wp2_with fail
      have C := HIH.out (some ad1) (some ad2) _ _ c1 c2 (limbs a) (limbs c) wc HXT.out HYT.out rfl rfl HSX.out.2.2 HSY.out.2.2 (by have := HSX.out.2.1; have := HN.out; omega) (by have := HSY.out.2.1; have := HN.out; omega) HW.out
      rw [val_limbs, val_limbs] at C
      refine C.mono ?_
      rintro e w4 ⟨Al, cl, rfl, hcl, hll, -, hb⟩
      have HL := Lib.hid hll
      have HCL := Lib.hid hcl
      replace HXT := Lib.hid (HXT.out.stay hb)
      replace HYT := Lib.hid (HYT.out.stay hb)
      replace HX1 := Lib.hid (HX1.out.stay hb)
      replace HY1 := Lib.hid (HY1.out.stay hb)
      replace HW := Lib.hid (HW.out.stay hb)
      replace HB := Lib.hid (HB.out.stay hb)
      clear C hcl hll hb
      go_wp2_with fail
      have C := HIH.out AX AY (l1 - p) (l2 - q) cX cY (xs.drop p) (ys.drop q) w4 HX1.out HY1.out HSX.out.1.symm HSY.out.1.symm HCX.out HCY.out (by have := HN.out; omega) (by have := HN.out; omega) HW.out
      rw [HBV.out.1, HBV.out.2] at C
      refine C.mono ?_
      rintro e w5 ⟨Ah, ch, rfl, hch, hlh, -, hb⟩
      have HH := Lib.hid hlh
      have HCH := Lib.hid hch
      replace HXT := Lib.hid (HXT.out.stay hb)
      replace HYT := Lib.hid (HYT.out.stay hb)
      replace HX1 := Lib.hid (HX1.out.stay hb)
      replace HY1 := Lib.hid (HY1.out.stay hb)
      replace HW := Lib.hid (HW.out.stay hb)
      replace HB := Lib.hid (HB.out.stay hb)
      replace HL := Lib.hid (HL.out.stay hb)
      clear C hch hlh hb
      have HKL := Lib.hid (kar_sizes HBD.out)
      have hmk := make_limbs (2 * n + 3) (by have := HN.out; omega)
      rw [Int.natCast_add, Int.natCast_mul, show ((2 : Nat) : Int) = 2 from rfl, show ((3 : Nat) : Int) = 3 from rfl] at hmk
      go_upto_region 6 with (fail)
      obtain ⟨W5, gm, hW5, hgm⟩ : ∃ W g, w5.alloc (.cells (madeCells #[.int .u64 0] (2 * n + 3)) 85) = W ∧ w5.heap.size = g := ⟨_, _, rfl, rfl⟩
      have hb5 : Below w5.heap.size w5 W5 := by rw [← hW5]; exact (Below.refl _ _).alloc (Nat.le_refl _) _
      have HRM := Lib.hid (show Row W5 gm (List.replicate (2 * n + 3) 0) by rw [← hW5, ← hgm]; exact Row.made _ _)
      have HFM := Lib.hid (show Fresh W5 gm (some ⟨gm, 0, none⟩) (2 * n + 3) by rw [← hW5, ← hgm]; exact Fresh.made w5 (2 * n + 3))
      have HGM := Lib.hid (show w5.heap.size = gm ∧ w.heap.size ≤ gm from ⟨hgm, by rw [← hgm]; exact HB.out.size⟩)
      have HLW := Lib.hid HL.out
      have HHW := Lib.hid HH.out
      rw [hW5, hgm]
      replace HXT := Lib.hid (HXT.out.stay hb5)
      replace HYT := Lib.hid (HYT.out.stay hb5)
      replace HX1 := Lib.hid (HX1.out.stay hb5)
      replace HY1 := Lib.hid (HY1.out.stay hb5)
      replace HW := Lib.hid (HW.out.stay hb5)
      replace HB := Lib.hid (HB.out.stay hb5)
      have HB5 := Lib.hid (show Below gm w5 W5 by rw [← hgm]; exact hb5)
      clear hW5 hgm hb5 hmk HL HH
      go_wp2_with fail
      have C := times_sum (some ad1) AX _ (l1 - p) c1 cX (limbs a) (xs.drop p) W5 HXT.out HX1.out rfl HSX.out.1.symm (by have := HSX.out.2.1; have := HN.out; omega) (by have := HN.out; omega)
      rw [val_limbs, HBV.out.1] at C
      refine C.mono ?_
      rintro e w6 ⟨As, cs, rfl, hcs, hls, -, hb⟩
      have HS := Lib.hid hls
      have HCS := Lib.hid hcs
      replace HB5 := Lib.hid (HB5.out.trans (hb.mono (Nat.le_of_lt HRM.out.lt)))
      replace HFM := Lib.hid (HFM.out.below hb)
      replace HYT := Lib.hid (HYT.out.stay hb)
      replace HY1 := Lib.hid (HY1.out.stay hb)
      replace HW := Lib.hid (HW.out.stay hb)
      replace HB := Lib.hid (HB.out.stay hb)
      replace HRM := Lib.hid (HRM.out.stay hb)
      clear C hcs hls hb
      go_wp2_with fail
      have C := times_sum (some ad2) AY _ (l2 - q) c2 cY (limbs c) (ys.drop q) w6 HYT.out HY1.out rfl HSY.out.1.symm (by have := HSY.out.2.1; have := HN.out; omega) (by have := HN.out; omega)
      rw [val_limbs, HBV.out.2] at C
      refine C.mono ?_
      rintro e w7 ⟨At, ct, rfl, hct, hlt, -, hb⟩
      have HT := Lib.hid hlt
      have HCT := Lib.hid hct
      replace HB5 := Lib.hid (HB5.out.trans (hb.mono (Nat.le_of_lt HRM.out.lt)))
      replace HFM := Lib.hid (HFM.out.below hb)
      replace HS := Lib.hid (HS.out.stay hb)
      replace HW := Lib.hid (HW.out.stay hb)
      replace HB := Lib.hid (HB.out.stay hb)
      replace HRM := Lib.hid (HRM.out.stay hb)
      clear C hct hlt hb
      go_wp2_with fail
      have C := HIH.out As At _ _ cs ct (limbs (a + b)) (limbs (c + f)) w7 HS.out HT.out rfl rfl HCS.out HCT.out (by have h1 := HKL.out.2.2.1; have := HN.out; unfold lc at h1; omega) (by have h1 := HKL.out.2.2.2.1; have := HN.out; unfold lc at h1; omega) HW.out
      rw [val_limbs, val_limbs] at C
      refine C.mono ?_
      rintro e w8 ⟨Ap, cp, rfl, hcp, hlp, hfp, hb⟩
      have HP := Lib.hid hlp
      have HNP := Lib.hid (fun (_ : 0 < (limbs ((a + b) * (c + f))).length) ad e => hfp.ne HRM.out.lt (ad := ad) e)
      replace HB5 := Lib.hid (HB5.out.trans (hb.mono (Nat.le_of_lt HRM.out.lt)))
      replace HFM := Lib.hid (HFM.out.below hb)
      replace HB := Lib.hid (HB.out.stay hb)
      replace HRM := Lib.hid (HRM.out.stay hb)
      clear C hcp hlp hfp hb HW HS HT
      obtain ⟨PM, hPM⟩ : ∃ x, (a + b) * (c + f) = x := ⟨_, rfl⟩
      have HPM := Lib.hid hPM
      rw [hPM] at HP HNP HKL ⊢
      clear hPM
      go_wp2_with fail
      have C := times_put gm (2 * n + 3) (2 * n + 3) 0 (List.replicate (2 * n + 3) 0) Ap _ cp (limbs PM) w8 HRM.out HP.out HNP.out (by rw [List.length_replicate]) rfl (by have h1 := HKL.out.2.2.2.2; unfold lc at h1; omega) (by rw [val_zeros, Nat.pow_zero, Nat.one_mul, Nat.zero_add, val_limbs]; exact lc_le.1 (by have := HKL.out.2.2.2.2; omega)) (by have := HN.out; omega)
      rw [Int.natCast_zero, val_zeros, Nat.pow_zero, Nat.one_mul, Nat.zero_add, val_limbs] at C
      refine C.mono ?_
      rintro e w9 ⟨v9, os9, rfl, hr, hl9, hv9, hgr⟩
      have HLM := Lib.hid (And.intro hl9 hv9)
      replace HB5 := Lib.hid (below_grown HB5.out (Nat.le_of_lt HRM.out.lt) hgr.1 (Nat.le_refl _))
      replace HB := Lib.hid (show Since w w9 from below_grown HB.out HB.out.size hgr.1 HGM.out.2)
      replace HFM := Lib.hid (hgr.2 _ _ HFM.out)
      replace HRM := Lib.hid hr
      clear C hr hl9 hv9 hgr HP HNP
      go_wp2_with fail
      have HNUM := Lib.hid (kar_nums HBD.out)
      have C := times_take gm (2 * n + 3) (2 * n + 3) os9 Al _ cl (limbs (a * c)) w9 HRM.out ((HLW.out.below' (by rw [HGM.out.1]; exact HB5.out)).more (by have := HRM.out.lt; have := HGM.out.1; omega)) (HLW.out.far (by rw [HGM.out.1]; exact Nat.le_refl _)) HLM.out.1.symm rfl (by have h1 := HKL.out.1; unfold lc at h1; omega) (by rw [val_limbs, HLM.out.2, ← HPM.out]; exact HNUM.out.1) (by have := HN.out; omega)
      rw [val_limbs, HLM.out.2] at C
      refine C.mono ?_
      rintro e w10 ⟨v10, os10, rfl, hr, hl10, hv10, hgr⟩
      have HV10 := Lib.hid hv10
      have HL10 := Lib.hid hl10
      replace HB5 := Lib.hid (below_grown HB5.out (Nat.le_of_lt HRM.out.lt) hgr.1 (Nat.le_refl _))
      replace HB := Lib.hid (show Since w w10 from below_grown HB.out HB.out.size hgr.1 HGM.out.2)
      replace HFM := Lib.hid (hgr.2 _ _ HFM.out)
      replace HRM := Lib.hid hr
      clear C hr hl10 hv10 hgr HLM
      go_wp2_with fail
      have C := times_take gm (2 * n + 3) (2 * n + 3) os10 Ah _ ch (limbs (b * f)) w10 HRM.out ((HHW.out.below' (by rw [HGM.out.1]; exact HB5.out)).more (by have := HRM.out.lt; have := HGM.out.1; omega)) (HHW.out.far (by rw [HGM.out.1]; exact Nat.le_refl _)) HL10.out.symm rfl (by have h1 := HKL.out.2.1; unfold lc at h1; omega) (by rw [val_limbs]; have h1 := HNUM.out.2; have h2 := HV10.out; have h3 := HPM.out; omega) (by have := HN.out; omega)
      rw [val_limbs] at C
      refine C.mono ?_
      rintro e w11 ⟨v11, os11, rfl, hr, hl11, hv11, hgr⟩
      have HV11 := Lib.hid (show val os11 + b * f + a * c = (a + b) * (c + f) by rw [hv11, HV10.out, HPM.out])
      have HL11 := Lib.hid hl11
      replace HB5 := Lib.hid (below_grown HB5.out (Nat.le_of_lt HRM.out.lt) hgr.1 (Nat.le_refl _))
      replace HB := Lib.hid (show Since w w11 from below_grown HB.out HB.out.size hgr.1 HGM.out.2)
      replace HFM := Lib.hid (hgr.2 _ _ HFM.out)
      replace HRM := Lib.hid hr
      clear C hr hl11 hv11 hgr HV10 HL10
      obtain ⟨M, hM⟩ : ∃ M, val os11 = M := ⟨_, rfl⟩
      have HMV := Lib.hid hM
      have HPROD := Lib.hid (kar_prod (n := n) (M := M) HBD.out (by rw [← hM]; exact HV11.out))
      have HML := Lib.hid (show lc M ≤ 2 * n + 3 by rw [← hM]; exact Nat.le_trans (limbs_val_le HRM.out.small) (by rw [HL11.out]; exact Nat.le_refl _))
      clear hM
      have hmk := make_limbs (4 * n + 4) (by have := HN.out; omega)
      rw [Int.natCast_add, Int.natCast_mul, show ((4 : Nat) : Int) = 4 from rfl] at hmk
      go_upto_region 10 with (fail)
      obtain ⟨W11, go, hW, hgo⟩ : ∃ W g, w11.alloc (.cells (madeCells #[.int .u64 0] (4 * n + 4)) 85) = W ∧ w11.heap.size = g := ⟨_, _, rfl, rfl⟩
      have hb11 : Below w11.heap.size w11 W11 := by rw [← hW]; exact (Below.refl _ _).alloc (Nat.le_refl _) _
      have HRO := Lib.hid (show Row W11 go (List.replicate (4 * n + 4) 0) by rw [← hW, ← hgo]; exact Row.made _ _)
      have HFO := Lib.hid (show Fresh W11 go (some ⟨go, 0, none⟩) (4 * n + 4) by rw [← hW, ← hgo]; exact Fresh.made w11 (4 * n + 4))
      have HGO := Lib.hid (show gm < go ∧ w.heap.size ≤ go from ⟨by rw [← hgo]; exact HRM.out.lt, by rw [← hgo]; exact HB.out.size⟩)
      rw [hW, hgo]
      have HL := Lib.hid (((HLW.out.below' (by rw [HGM.out.1]; exact HB5.out)).more (show w5.heap.size ≤ go by have h1 := HGM.out.1; have h2 := HGO.out.1; omega)))
      have HH := Lib.hid (((HHW.out.below' (by rw [HGM.out.1]; exact HB5.out)).more (show w5.heap.size ≤ go by have h1 := HGM.out.1; have h2 := HGO.out.1; omega)))
      have HBO := Lib.hid (show Below go w11 W11 by rw [← hgo]; exact hb11)
      replace HB := Lib.hid (HB.out.stay hb11)
      clear hW hgo hb11 hmk HLW HHW HB5
      go_wp2_with fail
      have C := times_put go (4 * n + 4) (4 * n + 4) 0 (List.replicate (4 * n + 4) 0) Al _ cl (limbs (a * c)) W11 HRO.out (HL.out.below' HBO.out |>.more (Nat.le_of_lt HRO.out.lt)) (HL.out.far (Nat.le_refl _)) (by rw [List.length_replicate]) rfl (by have h1 := HKL.out.1; unfold lc at h1; omega) (by rw [val_zeros, Nat.pow_zero, Nat.one_mul, Nat.zero_add, val_limbs]; have := HPROD.out.2; omega) (by have := HN.out; omega)
      rw [Int.natCast_zero, val_zeros, Nat.pow_zero, Nat.one_mul, Nat.zero_add, val_limbs] at C
      refine C.mono ?_
      rintro e w12 ⟨v12, os12, rfl, hr, hl12, hv12, hgr⟩
      have HV12 := Lib.hid hv12
      have HL12 := Lib.hid hl12
      replace HBO := Lib.hid (below_grown HBO.out (Nat.le_of_lt HRO.out.lt) hgr.1 (Nat.le_refl _))
      replace HB := Lib.hid (show Since w w12 from below_grown HB.out HB.out.size hgr.1 HGO.out.2)
      replace HFO := Lib.hid (hgr.2 _ _ HFO.out)
      replace HRO := Lib.hid hr
      clear C hr hl12 hv12 hgr HL
      go_wp2_with fail
      have HRM2 := Lib.hid (show Lim w12 go (some ⟨gm, 0, none⟩) os11 from (HRM.out.lim HGO.out.1).below' HBO.out)
      have T := times_trim (some ⟨gm, 0, none⟩) (2 * n + 3) os11 w12 HRM2.out (by rw [HL11.out]; exact Nat.le_refl _) (by rw [HL11.out]; have := HN.out; omega)
      rw [HL11.out, HMV.out] at T
      have HTM := Lib.hid (show Lim w12 go (some ⟨gm, 0, none⟩) (limbs M) by rw [← HMV.out]; exact HRM2.out.trim)
      refine T.mono ?_
      rintro e w13 ⟨rfl, rfl⟩
      clear T HRM2
      go_wp2_with fail
      have C := times_put go (4 * n + 4) (4 * n + 4) n os12 (some ⟨gm, 0, none⟩) _ (2 * n + 3) (limbs M) w12 HRO.out (HTM.out.more (Nat.le_of_lt HRO.out.lt)) (HTM.out.far (Nat.le_refl _)) HL12.out.symm rfl (by have h1 := HML.out; unfold lc at h1; omega) (by rw [HV12.out, val_limbs]; have := HPROD.out.2; omega) (by have := HN.out; omega)
      rw [HV12.out, val_limbs] at C
      refine C.mono ?_
      rintro e w14 ⟨v14, os14, rfl, hr, hl14, hv14, hgr⟩
      have HV14 := Lib.hid hv14
      have HL14 := Lib.hid hl14
      replace HBO := Lib.hid (below_grown HBO.out (Nat.le_of_lt HRO.out.lt) hgr.1 (Nat.le_refl _))
      replace HB := Lib.hid (show Since w w14 from below_grown HB.out HB.out.size hgr.1 HGO.out.2)
      replace HFO := Lib.hid (hgr.2 _ _ HFO.out)
      replace HRO := Lib.hid hr
      clear C hr hl14 hv14 hgr HTM HV12 HL12
      go_wp2_with fail
      have C := times_put go (4 * n + 4) (4 * n + 4) (2 * n) os14 Ah _ ch (limbs (b * f)) w14 HRO.out ((HH.out.below' HBO.out).more (Nat.le_of_lt HRO.out.lt)) (HH.out.far (Nat.le_refl _)) HL14.out.symm rfl (by have h1 := HKL.out.2.1; unfold lc at h1; omega) (by rw [HV14.out, val_limbs]; exact HPROD.out.2) (by have := HN.out; omega)
      rw [HV14.out, val_limbs, HPROD.out.1, ← HX.out, ← HY.out, Int.natCast_mul, show ((2 : Nat) : Int) = 2 from rfl] at C
      refine C.mono ?_
      rintro e w15 ⟨v15, os15, rfl, hr, hl15, hv15, hgr⟩
      have HV15 := Lib.hid hv15
      have HL15 := Lib.hid hl15
      replace HB := Lib.hid (show Since w w15 from below_grown HB.out HB.out.size hgr.1 HGO.out.2)
      replace HFO := Lib.hid (hgr.2 _ _ HFO.out)
      replace HRO := Lib.hid hr
      clear C hr hl15 hv15 hgr
      go_wp2_with fail
      have T := times_trim (some ⟨go, 0, none⟩) (4 * n + 4) os15 w15 HRO.out.lim' (by rw [HL15.out]; exact Nat.le_refl _) (by rw [HL15.out]; have := HN.out; omega)
      rw [HL15.out, HV15.out] at T
      refine T.mono ?_
      rintro e w16 ⟨rfl, rfl⟩
      clear T
      go_wp2_with fail
      go_ret
      have hl3 := limbs_val_le HRO.out.small
      have ht := HRO.out.lim'.trim
      rw [HV15.out] at hl3 ht
      rw [HL15.out] at hl3
      exact ⟨_, _, rfl, hl3, ht, HFO.out.since HGO.out.2, HB.out⟩
set_option maxHeartbeats 1000000 in
set_option maxRecDepth 100000 in
theorem times_way (d g : Nat) : ∀ m, m ≤ 17179869184 → Way m d g := by
  intro m
  induction m with
  | zero =>
    intro _ A1 A2 l1 l2 c1 c2 xs ys W h1 h2 e1 e2 _ _ hm1 hm2 hw
    exact times_deep1 A1 A2 l1 l2 c1 c2 d g xs ys W h1 h2 e1 e2 (by omega) hw.cd (by omega)
  | succ m ih =>
    intro hm A1 A2 l1 l2 c1 c2 xs ys W h1 h2 e1 e2 hc1 hc2 hm1 hm2 hw
    by_cases hs : min l1 l2 < 24
    · exact times_deep1 A1 A2 l1 l2 c1 c2 d g xs ys W h1 h2 e1 e2 (by omega) hw.cd hs
    · have hsI : ¬ min (l1 : Int) (l2 : Int) < 24 := by omega
      have HH := Lib.hid (times_halves m d g (ih (by omega)) A1 A2 l1 l2 c1 c2 xs ys W h1 h2 e1 e2 hc1 hc2 (by omega) (by omega) (by omega) (by omega) (by omega) hw)
      have hd := hw.cd
      have hg := hw.cg
      unfold wayF at hg
      clear ih h1 h2 e1 e2 hc1 hc2 hm1 hm2 hw hs
      go_enter Tryz.func120, Tryz.ntmps120
      go_wp2_with fail
      refine HH.out.mono ?_
      rintro e w1 ⟨A, c, rfl, hc, hl, hf, hb⟩
      have H := Lib.hid (And.intro hc (And.intro hl (And.intro hf hb)))
      clear hc hl hf hb hd hg
      go_wp2_with fail
      go_ret
      exact ⟨A, c, rfl, H.out.1, H.out.2.1, H.out.2.2.1, H.out.2.2.2⟩
end Go.Proofs.YtonbhpadoplpkaaGreat
/- The package times: Mul of any numbers. -/
namespace Go.Proofs.YtonbhpadoplpkaaGreat
open Go.RowKit Go.Deep
set_option maxRecDepth 100000 in
theorem times_told_any (u v : Value) (d p : Nat) (x y : Int) (w : World) (hx : IntV w u x) (hy : IntV w v y) (lx : lc x.natAbs ≤ 4096) (ly : lc y.natAbs ≤ 4096) (hd : WayC w d p) :
    Calls Tryz.prog 80 #[u, v, .func (.func 120) #[] #[.pointer (some ⟨d, 0, none⟩), .pointer (some ⟨p, 0, none⟩)]] w fun e w' => ∃ v', e = .returned (.tuple #[v', .int .i64 (longE (x * y))]) ∧ RawAt w' w.heap.size v' (longR (x * y)) ∧ Below w.heap.size w w' := by
  obtain ⟨A1, l1, c1, rfl, hl1, hc1, hlim1⟩ := hx
  obtain ⟨A2, l2, c2, rfl, hl2, hc2, hlim2⟩ := hy
  have HR1 := Lib.hid (right_of lx)
  have HR2 := Lib.hid (right_of ly)
  have HL1 := Lib.hid hl1
  have HL2 := Lib.hid hl2
  have hI1 : (l1 : Int) ≤ 4096 := by unfold lc at lx; omega
  have hI2 : (l2 : Int) ≤ 4096 := by unfold lc at ly; omega
  have HX := Lib.hid lx
  have HY := Lib.hid ly
  clear hl1 hl2 lx ly
  obtain ⟨s1, hs1⟩ : ∃ s, decide (x < 0) = s := ⟨_, rfl⟩
  obtain ⟨s2, hs2⟩ : ∃ s, decide (y < 0) = s := ⟨_, rfl⟩
  have HS1 := Lib.hid hs1
  have HS2 := Lib.hid hs2
  rw [hs1, hs2]
  clear hs1 hs2
  have HCC := Lib.hid (And.intro hc1 hc2)
  have HDD := Lib.hid hd
  clear hd
  go_enter Tryz.func80, Tryz.ntmps80
  go_wp2_with fail
  obtain ⟨W0, g, h, r, hW, hg, hh, hr, hgr, bx, by_, br, hbw, hsz⟩ := box_three w (.bool s1) (.slice A1 l1 c1) (.bool s2) (.slice A2 l2 c2) (.bool false) (.slice none 0 0)
  have HW := Lib.hid (show w.heap.size = g from hg)
  replace HDD := Lib.hid (HDD.out.stay (show Below w.heap.size w W0 from hg ▸ hbw))
  rw [hW, hr, hh, hg]
  have k1 := ((hg ▸ hlim1 : Lim w g A1 (limbs x.natAbs)).below hbw)
  have k2 := ((hg ▸ hlim2 : Lim w g A2 (limbs y.natAbs)).below hbw)
  clear hW hr hh hlim1 hlim2
  refine (limb_right s1 A1 l1 c1 (limbs x.natAbs) W0 (by omega) k1 HL1.out).mono ?_
  rintro e w1 ⟨rfl, hb1⟩
  rw [← HS1.out, HR1.out, HS1.out]
  replace HDD := Lib.hid (HDD.out.stay hb1)
  have bx := bx.below hb1 bx.lt
  have by_ := by_.below hb1 by_.lt
  have br := br.below hb1 br.lt
  have hbw1 := hbw.trans (hb1.mono (by omega))
  have k1 := k1.below (hb1.mono (by omega))
  have k2 := k2.below (hb1.mono (by omega))
  have hsz1 := hb1.size
  have a0 := bx.cell0
  have a1 := bx.cell1
  have b0 := by_.cell0
  have b1 := by_.cell1
  clear hb1 hg
  go_wp2_with fail
  refine (limb_right s2 A2 l2 c2 (limbs y.natAbs) w1 (by omega) k2 HL2.out).mono ?_
  rintro e w2 ⟨rfl, hb2⟩
  rw [← HS2.out, HR2.out, HS2.out]
  replace HDD := Lib.hid (HDD.out.stay hb2)
  have bx := bx.below hb2 bx.lt
  have by_ := by_.below hb2 by_.lt
  have br := br.below hb2 br.lt
  have hbw2 := hbw1.trans (hb2.mono (by omega))
  have k1 := (k1.below (hb2.mono (by omega))).more (show g ≤ w2.heap.size by have := hb2.size; omega)
  have k2 := (k2.below (hb2.mono (by omega))).more (show g ≤ w2.heap.size by have := hb2.size; omega)
  have HSZ2 := Lib.hid (show g + 3 ≤ w2.heap.size by have := hb2.size; omega)
  clear hb2 a0 a1 b0 b1 hbw1 hbw hsz1 hsz
  have a0 := bx.cell0
  have a1 := bx.cell1
  have b0 := by_.cell0
  have b1 := by_.cell1
  have hNN := Int.natAbs_mul x y
  by_cases hbig : 4097 < l1 + l2
  · have hLONG : 4096 < lc (x * y).natAbs := by
      rw [hNN]
      have e1 := HL1.out
      have e2 := HL2.out
      have h1 : 0 < x.natAbs := Nat.pos_of_ne_zero fun h => by rw [h, limbs_zero] at e1; simp at e1; omega
      have h2 : 0 < y.natAbs := Nat.pos_of_ne_zero fun h => by rw [h, limbs_zero] at e2; simp at e2; omega
      have := lc_mul_ge h1 h2
      unfold lc at this ⊢
      omega
    have HR := Lib.hid (show longR (x * y) = (false, []) by unfold longR; rw [if_pos hLONG])
    have HE := Lib.hid (show longE (x * y) = 3 by unfold longE; rw [if_pos hLONG])
    have t2 : (0 : Int) < (l1 : Int) := by omega
    have t3 : (0 : Int) < (l2 : Int) := by omega
    have t1 : (4097 : Int) < (l1 : Int) + (l2 : Int) := by omega
    have d0 := br.cell0
    have d1 := br.cell1
    have fr := br.free
    clear hLONG hNN
    go_wp2_with fail
    refine bodyPost_ret (v := .tuple #[.agg #[.bool false, (.slice none 0 0)], (.int .i64 3)]) (by
      rw [results_cell_tmp rfl]
      have hld := run_loadVar_row (P := Tryz.prog) _ r 24 24 #[.bool false, (.slice none 0 0)] (0, 0) _ br.store Tryz.underlying24 rfl (by kernel_rfl)
      simp [asAddr, Result.andThen, hld]) rfl ?_
    rw [HR.out, HE.out]
    exact ⟨_, rfl, RawAt.zero _ _, by rw [HW.out]; exact store2_below hbw2 (by omega)⟩
  · have HNB := Lib.hid hbig
    have HNN := Lib.hid hNN
    have hcnd : ¬ ((4097 : Int) < (l1 : Int) + (l2 : Int)) := by omega
    have HBR := Lib.hid br
    have HBW := Lib.hid hbw2
    clear hbig hNN
    go_wp2_with fail
    refine (times_way d p 17179869184 (Nat.le_refl _) A1 A2 l1 l2 c1 c2 (limbs x.natAbs) (limbs y.natAbs) w2 k1 k2 HL1.out HL2.out HCC.out.1 HCC.out.2 (by omega) (by omega) HDD.out).mono ?_
    rintro e w3 ⟨A, c, rfl, hc, hlim, hf, hb3⟩
    rw [val_limbs, val_limbs, ← HNN.out] at hc hlim ⊢
    obtain ⟨n, hn⟩ : ∃ n, (limbs (x * y).natAbs).length = n := ⟨_, rfl⟩
    have HN := Lib.hid hn
    rw [hn]
    have br3 := HBR.out.below hb3 HBR.out.lt
    have bx3 := bx.below hb3 bx.lt
    have by3 := by_.below hb3 by_.lt
    have HBF := Lib.hid (HBW.out.trans (hb3.mono (by have := HSZ2.out; omega)))
    have HF := Lib.hid hf
    have HLIM := Lib.hid hlim
    have HC := Lib.hid (show n ≤ c by rw [← hn]; exact hc)
    clear a0 a1 b0 b1 hn hc hlim hf hb3 bx by_ br
    have a0 := bx3.cell0
    have b0 := by3.cell0
    have d0 := br3.cell0
    have d1 := br3.cell1
    have fr := br3.free
    by_cases hlong : 4096 < n
    · have HR := Lib.hid (show longR (x * y) = (false, []) by unfold longR; rw [if_pos (by unfold lc; rw [HN.out]; exact hlong)])
      have HE := Lib.hid (show longE (x * y) = 3 by unfold longE; rw [if_pos (by unfold lc; rw [HN.out]; exact hlong)])
      have hlI : (4096 : Int) < (n : Int) := by omega
      clear hlong
      go_wp2_with fail
      refine bodyPost_ret (v := .tuple #[.agg #[.bool false, (.slice none 0 0)], (.int .i64 3)]) (by
        rw [results_cell_tmp rfl]
        have hld := run_loadVar_row (P := Tryz.prog) _ r 24 24 #[.bool false, (.slice none 0 0)] (0, 0) _ br3.store Tryz.underlying24 rfl (by kernel_rfl)
        simp [asAddr, Result.andThen, hld]) rfl ?_
      rw [HR.out, HE.out]
      exact ⟨_, rfl, RawAt.zero _ _, by rw [HW.out]; exact store2_below HBF.out (by omega)⟩
    · have HOK : lc (x * y).natAbs ≤ 4096 := by unfold lc; rw [HN.out]; omega
      have HR := Lib.hid (longR_ok HOK)
      have HE := Lib.hid (longE_ok HOK)
      have hlI : ¬ ((4096 : Int) < (n : Int)) := by omega
      have HSG := Lib.hid (show decide (x * y < 0) = (decide (0 < n) && (s1 != s2)) by
        have h1 := signed_mul' s1 s2 x.natAbs y.natAbs
        rw [← HS1.out, ← HS2.out, signed_of, signed_of, HS1.out, HS2.out] at h1
        rw [← h1, signed_neg, Bool.and_comm, ← HN.out, ← Int.natAbs_mul, some_limbs])
      have HFIN := Lib.hid (fun (b : Bool) (hb : b = decide (x * y < 0)) => show RawAt ((w3.setCell ⟨r, 0, none⟩ (.bool b)).setCell ⟨r, 1, none⟩ (.slice A n c)) w.heap.size (.agg #[.bool b, .slice A n c]) (rawOf (x * y)) from by
        subst hb
        have h1 : RawAt w3 w2.heap.size (.agg #[.bool (decide (x * y < 0)), .slice A n c]) (rawOf (x * y)) := ⟨A, n, c, rfl, HN.out.symm, HC.out, HLIM.out, HF.out⟩
        exact (h1.ext (ext_store2 br3.nums) (fun i hi => by subst hi; have := HSZ2.out; omega)).since (by rw [HW.out]; have := HSZ2.out; omega))
      clear hlong HOK
      by_cases hn0 : 0 < n
      · have hn0I : (0 : Int) < (n : Int) := by omega
        have HB := Lib.hid (show (!(s1 == s2)) = decide (x * y < 0) by rw [HSG.out, decide_eq_true hn0, Bool.true_and]; rfl)
        clear hn0
        go_wp2_with fail
        refine bodyPost_ret (v := .tuple #[.agg #[.bool (!(s1 == s2)), (.slice A n c)], (.int .i64 0)]) (by
          rw [results_cell_tmp rfl]
          have hld := run_loadVar_row (P := Tryz.prog) _ r 24 24 #[.bool (!(s1 == s2)), (.slice A n c)] (0, 0) _ br3.store Tryz.underlying24 rfl (by kernel_rfl)
          simp [asAddr, Result.andThen, hld]) rfl ?_
        rw [HR.out, HE.out]
        exact ⟨_, rfl, HFIN.out _ HB.out, by rw [HW.out]; exact store2_below HBF.out (by omega)⟩
      · have hn0I : ¬ ((0 : Int) < (n : Int)) := by omega
        have HB := Lib.hid (show false = decide (x * y < 0) by rw [HSG.out, decide_eq_false hn0, Bool.false_and])
        clear hn0
        go_wp2_with fail
        refine bodyPost_ret (v := .tuple #[.agg #[.bool false, (.slice A n c)], (.int .i64 0)]) (by
          rw [results_cell_tmp rfl]
          have hld := run_loadVar_row (P := Tryz.prog) _ r 24 24 #[.bool false, (.slice A n c)] (0, 0) _ br3.store Tryz.underlying24 rfl (by kernel_rfl)
          simp [asAddr, Result.andThen, hld]) rfl ?_
        rw [HR.out, HE.out]
        exact ⟨_, rfl, HFIN.out _ HB.out, by rw [HW.out]; exact store2_below HBF.out (by omega)⟩
set_option maxHeartbeats 1000000 in
set_option maxRecDepth 100000 in
theorem times_Mul_any (u v : Value) (x y : Int) (w : World) (hx : IntV w u x) (hy : IntV w v y) (lx : lc x.natAbs ≤ 4096) (ly : lc y.natAbs ≤ 4096) :
    Calls Tryz.prog 40 #[u, v] w fun e w' => ∃ v', e = .returned (.tuple #[v', .int .i64 (longE (x * y))]) ∧ RawAt w' w.heap.size v' (longR (x * y)) ∧ Below w.heap.size w w' := by
  obtain ⟨s1, A1, l1, c1, rfl, HU⟩ := hx.open
  obtain ⟨s2, A2, l2, c2, rfl, HV⟩ := hy.open
  have LX := Lib.hid lx
  have LY := Lib.hid ly
  clear hx hy lx ly
  go_enter Tryz.func40, Tryz.ntmps40
  go_wp2_with fail
  obtain ⟨W0, g, h, r, hW, hg, hh, hr, hgr, bx, by_, br, hbw, hsz⟩ := box_three w (.bool s1) (.slice A1 l1 c1) (.bool s2) (.slice A2 l2 c2) (.bool false) (.slice none 0 0)
  have HW := Lib.hid (show w.heap.size = g from hg)
  rw [hW, hr, hh, hg]
  have HBW := Lib.hid hbw
  have HBWS := Lib.hid (show Below w.heap.size w W0 from by rw [hg]; exact hbw)
  clear hW hr hg hh hbw
  refine wp_region_stages (fun w' => ∃ δ : Later Nix W0, w' = δ.world) [(false, 0), (false, 1), (true, 2), (true, 3), (false, 4), (false, 5)] 6 [.reads [_, _], .loud _, .loud _, .reads [_, _]] [_, _] (by kernel_rfl) (by kernel_rfl) rfl rfl ?_ ?_
  · exact ⟨⟨_, nix_drawn W0⟩, rfl⟩
  have r0 := later_cell bx.cell0
  have r1 := later_cell bx.cell1
  have r2 := later_cell by_.cell0
  have r3 := later_cell by_.cell1
  refine wpStages_reads ?_
  repeat (go_big_quiet_step (fail))
  refine wpQuiet_nil ?_
  refine wpStages_loud rfl ?_
  intro K hK
  go_big_op
  refine (times_deep _).mono ?_
  rintro e w1 ⟨d, p, rfl, hd, hp, hsz1, hb1, hcd, hcp⟩
  have he1 : Ext Nix W0 w1 := (nix_drawn W0).later (Ext.of_below hb1)
  have HD := Lib.hid (show d < w1.heap.size by have h : (W0.drewN 1).heap.size = W0.heap.size := rfl; omega)
  clear hd hp hsz1
  refine hK _ _ ⟨⟨w1, he1⟩, rfl⟩ ?_
  clear hK K
  refine wpStages_loud rfl ?_
  intro K hK
  go_big_op
  have hb01 : Below W0.heap.size W0 w1 := Ext.below (he1.mono (fun _ _ h => h) (fun _ h => h.elim))
  refine (times_told_any _ _ d p x y w1 ((HU.out.below HBWS.out).below hb01) ((HV.out.below HBWS.out).below hb01) LX.out LY.out ⟨hcd, hcp⟩).mono ?_
  rintro e w2 ⟨v2, rfl, hv2, hb2⟩
  have he2 : Ext Nix W0 w2 := he1.later (Ext.of_below hb2)
  refine hK _ _ ⟨⟨w2, he2⟩, rfl⟩ ?_
  clear hK K
  obtain ⟨E, hE⟩ : ∃ E : Int, longE (x * y) = E := ⟨_, rfl⟩
  have HE := Lib.hid hE
  rw [hE]
  clear hE
  obtain ⟨b2, B2, m2, d2, rfl, HV2⟩ := hv2.open
  have hb02 : Below W0.heap.size W0 w2 := Ext.below (he2.mono (fun _ _ h => h) (fun _ h => h.elim))
  have br2 := br.below hb02 br.lt
  have HB2 := Lib.hid (HBW.out.trans (hb02.mono (by omega)))
  have hbl := hb01.size
  have HR := Lib.hid ((HV2.out.ext (ext_store2 (a := .bool b2) (b := .slice B2 m2 d2) br2.nums) (fun i hi => by subst hi; omega)).since (base' := w.heap.size) (by rw [HW.out]; omega))
  have d0 := br2.cell0
  have d1 := br2.cell1
  have fr := br2.free
  clear hv2 hb2 hb1 hcd hcp r0 r1 r2 r3
  refine wpStages_reads ?_
  repeat (go_big_quiet_step (fail))
  refine wpQuiet_nil ?_
  refine wpStages_nil ?_
  go_wp2_with fail
  refine bodyPost_ret (v := .tuple #[.agg #[.bool b2, (.slice B2 m2 d2)], (.int .i64 E)]) (by
    rw [results_cell_tmp rfl]
    have hld := run_loadVar_row (P := Tryz.prog) _ r 24 24 #[.bool b2, (.slice B2 m2 d2)] (0, 0) _ br2.store Tryz.underlying24 rfl (by kernel_rfl)
    simp [asAddr, Result.andThen, hld]) rfl ?_
  rw [HE.out]
  exact ⟨_, rfl, HR.out, by rw [HW.out]; exact store2_below HB2.out (by omega)⟩
end Go.Proofs.YtonbhpadoplpkaaGreat
/- Contracts of the abstract machine: limb, times, divide, gcd. -/
namespace Go.Proofs.YtonbhpadoplpkaaGreat
open Go.RowKit Go.Deep
theorem ct_Right (x : Raw) : Ct Tryz.prog 37 [aNum x] (.val (aB (rightInt x))) :=
  ct1 Tryz.func37 rfl rfl rfl fun w u h => (raw_right u x w h).mono (by rintro e w' ⟨rfl, hb⟩; exact ⟨_, rfl, fun _ _ => rfl, hb⟩)
theorem ct_gzero (x : Raw) : Ct Tryz.prog 65 [aNum x] (.val (aB (decide (x.2.length = 0)))) :=
  ct1 Tryz.func65 rfl rfl rfl fun w u h => (gcd_zero u x w h).mono (by rintro e w' ⟨rfl, hb⟩; exact ⟨_, rfl, fun _ _ => rfl, hb⟩)
theorem rawOf_len0 {z : Int} : (rawOf z).2.length = 0 ↔ z = 0 := by
  show (limbs z.natAbs).length = 0 ↔ z = 0
  rw [List.length_eq_zero_iff, limbs_eq_nil]
  omega
abbrev aZ (z : Int) : AR := aNum (rawOf z)
abbrev zZ (z : Int) : AV := aInt (rawOf z)
theorem ct_gzeroT (z : Int) (h : z = 0) : Ct Tryz.prog 65 [aZ z] (.val (aB true)) := by
  have := ct_gzero (rawOf z)
  rwa [decide_eq_true (rawOf_len0.2 h)] at this
theorem ct_gzeroF (z : Int) (h : z ≠ 0) : Ct Tryz.prog 65 [aZ z] (.val (aB false)) := by
  have := ct_gzero (rawOf z)
  rwa [decide_eq_false (fun e => h (rawOf_len0.1 e))] at this
theorem ct_gsize (z : Int) (hl : lc z.natAbs ≤ 1099511627776) : Ct Tryz.prog 66 [aZ z] (aZ (z.natAbs : Int)) :=
  ct1 Tryz.func66 rfl rfl rfl fun w u h => (gcd_size u _ w h hl).mono (by
    rintro e w' ⟨v, rfl, h1, hb⟩
    refine ⟨v, rfl, fun G β => ok_of_rawV ?_, hb⟩
    have e : rawOf (z.natAbs : Int) = (false, (rawOf z).2) := by
      unfold rawOf
      rw [decide_eq_false (show ¬ ((z.natAbs : Int) < 0) by omega), Int.natAbs_natCast]
    rw [e]
    exact h1.rawV)
theorem ct_limbOf (n : Int) (h1 : -9223372036854775808 ≤ n) (h2 : n < 9223372036854775808) : Ct Tryz.prog 48 [.val (aI n)] (aZ n) where
  enters := fun vals w => enters_of Tryz.func48 rfl rfl vals w
  nop := rfl
  calls := by
    intro G β w vals _ ha
    rcases vals with _ | ⟨u, _ | ⟨v, vs⟩⟩
    · exact ha.elim
    · obtain ⟨hu, _⟩ := ha
      have hu : u = .int .i64 n := hu
      subst hu
      refine (limb_Of n w h1 h2).mono ?_
      rintro e w' ⟨v, rfl, h1, h2⟩
      exact ⟨v, rfl, ok_of_rawV h1.rawV, h2⟩
    · exact ha.2.elim
theorem ct_Neg (z : Int) (hl : lc z.natAbs ≤ 4096) : Ct Tryz.prog 64 [aZ z] (.tup [zZ (-z), aI 0]) :=
  ct1 Tryz.func64 rfl rfl rfl fun w u h => (limb_Neg u z w h.int hl).mono (by
    rintro e w' ⟨v, rfl, h1, hb⟩
    exact ⟨_, rfl, fun G β => tup_ok (vs := [_, _]) ⟨ok_of_rawV h1.rawV, rfl, trivial⟩, hb⟩)
theorem ct_Add (x y : Int) (hx : lc x.natAbs ≤ 4096) (hy : lc y.natAbs ≤ 4096) : Ct Tryz.prog 41 [aZ x, aZ y] (.tup [aInt (longR (x + y)), aI (longE (x + y))]) :=
  ct2 Tryz.func41 rfl rfl rfl fun w u v h k => (limb_Add u v x y w h.int k.int hx hy).mono (by
    rintro e w' ⟨r, rfl, h1, hb⟩
    exact ⟨_, rfl, fun G β => tup_ok (vs := [_, _]) ⟨ok_of_rawV h1.rawV, rfl, trivial⟩, hb⟩)
theorem ct_Add0 (x y : Int) (hx : lc x.natAbs ≤ 4096) (hy : lc y.natAbs ≤ 4096) (hs : lc (x + y).natAbs ≤ 4096) : Ct Tryz.prog 41 [aZ x, aZ y] (.tup [zZ (x + y), aI 0]) := by
  have h := ct_Add x y hx hy
  rwa [longR_ok hs, longE_ok hs] at h
theorem ct_Sub (x y : Int) (hx : lc x.natAbs ≤ 4096) (hy : lc y.natAbs ≤ 4096) : Ct Tryz.prog 47 [aZ x, aZ y] (.tup [aInt (longR (x - y)), aI (longE (x - y))]) :=
  ct2 Tryz.func47 rfl rfl rfl fun w u v h k => (limb_Sub u v x y w h.int k.int hx hy).mono (by
    rintro e w' ⟨r, rfl, h1, hb⟩
    exact ⟨_, rfl, fun G β => tup_ok (vs := [_, _]) ⟨ok_of_rawV h1.rawV, rfl, trivial⟩, hb⟩)
theorem ct_Sub0 (x y : Int) (hx : lc x.natAbs ≤ 4096) (hy : lc y.natAbs ≤ 4096) (hs : lc (x - y).natAbs ≤ 4096) : Ct Tryz.prog 47 [aZ x, aZ y] (.tup [zZ (x - y), aI 0]) := by
  have h := ct_Sub x y hx hy
  rwa [longR_ok hs, longE_ok hs] at h
theorem ct_Cmp (x y : Int) (hx : lc x.natAbs ≤ 4096) (hy : lc y.natAbs ≤ 4096) : Ct Tryz.prog 67 [aZ x, aZ y] (.tup [aI (cmpZ x y), aI 0]) :=
  ct2 Tryz.func67 rfl rfl rfl fun w u v h k => (limb_Cmp u v x y w h.int k.int hx hy).mono (by
    rintro e w' ⟨rfl, hb⟩
    exact ⟨_, rfl, fun G β => tup_ok (vs := [_, _]) ⟨rfl, rfl, trivial⟩, hb⟩)
theorem ct_Mul (x y : Int) (hx : lc x.natAbs ≤ 4096) (hy : lc y.natAbs ≤ 4096) : Ct Tryz.prog 40 [aZ x, aZ y] (.tup [aInt (longR (x * y)), aI (longE (x * y))]) :=
  ct2 Tryz.func40 rfl rfl rfl fun w u v h k => (times_Mul_any u v x y w h.int k.int hx hy).mono (by
    rintro e w' ⟨r, rfl, h1, hb⟩
    exact ⟨_, rfl, fun G β => tup_ok (vs := [_, _]) ⟨ok_of_rawV h1.rawV, rfl, trivial⟩, hb⟩)
theorem ct_Mul0 (x y : Int) (hx : lc x.natAbs ≤ 4096) (hy : lc y.natAbs ≤ 4096) (hs : lc x.natAbs + lc y.natAbs ≤ 4096) : Ct Tryz.prog 40 [aZ x, aZ y] (.tup [zZ (x * y), aI 0]) := by
  have h := ct_Mul x y hx hy
  have h3 : lc (x * y).natAbs ≤ 4096 := by rw [Int.natAbs_mul]; have := lc_mul x.natAbs y.natAbs; omega
  rwa [longR_ok h3, longE_ok h3] at h
theorem ct_Trunc (x y : Int) (hx : lc x.natAbs ≤ 1200) (hy : lc y.natAbs ≤ 1200) (h0 : y ≠ 0) : Ct Tryz.prog 14 [aZ x, aZ y] (.tup [zZ (x.tdiv y), zZ (x.tmod y), aI 0]) :=
  ct2 Tryz.func14 rfl rfl rfl fun w u v h k => (divide_Trunc u v x y w h.int k.int (by omega) (by omega) h0 (.inl hy)).mono (by
    rintro e w' ⟨p, q, rfl, h1, h2, _, hb⟩
    exact ⟨_, rfl, fun G β => tup_ok (vs := [_, _, _]) ⟨ok_of_rawV h1.rawV, ok_of_rawV h2.rawV, rfl, trivial⟩, hb⟩)
theorem ct_TruncN (m n : Nat) (hx : lc m ≤ 90) (hy : lc n ≤ 90) (h0 : n ≠ 0) : Ct Tryz.prog 14 [aZ (m : Int), aZ (n : Int)] (.tup [zZ ((m / n : Nat) : Int), zZ ((m % n : Nat) : Int), aI 0]) :=
  ct_Trunc (m : Int) (n : Int) (by rw [Int.natAbs_natCast]; omega) (by rw [Int.natAbs_natCast]; omega) (by omega)
theorem ct_Exact (x y : Int) (hx : lc x.natAbs ≤ 1200) (hy : lc y.natAbs ≤ 1200) (h0 : y ≠ 0) : Ct Tryz.prog 15 [aZ x, aZ y] (.tup [aInt (if x.tmod y = 0 then rawOf (x.tdiv y) else (false, [])), aB (decide (x.tmod y = 0)), aI 0]) :=
  ct2 Tryz.func15 rfl rfl rfl fun w u v h k => (divide_Exact u v x y w h.int k.int (by omega) (by omega) h0 (.inl hy)).mono (by
    rintro e w' ⟨p, rfl, h1, hb⟩
    exact ⟨_, rfl, fun G β => tup_ok (vs := [_, _, _]) ⟨ok_of_rawV h1.rawV, rfl, rfl, trivial⟩, hb⟩)
theorem ct_Exact0 (x y : Int) (hx : lc x.natAbs ≤ 1200) (hy : lc y.natAbs ≤ 1200) (h0 : y ≠ 0) (hm : x.tmod y = 0) : Ct Tryz.prog 15 [aZ x, aZ y] (.tup [zZ (x.tdiv y), aB true, aI 0]) := by
  have h := ct_Exact x y hx hy h0
  rwa [if_pos hm, decide_eq_true hm] at h
theorem ct_ExactN (x y : Int) (hx : lc x.natAbs ≤ 1200) (hy : lc y.natAbs ≤ 1200) (h0 : y ≠ 0) (hm : x.tmod y ≠ 0) : Ct Tryz.prog 15 [aZ x, aZ y] (.tup [aInt (false, []), aB false, aI 0]) := by
  have h := ct_Exact x y hx hy h0
  rwa [if_neg hm, decide_eq_false hm] at h
theorem ct_Mod (x y : Int) (hx : lc x.natAbs ≤ 1200) (hy : lc y.natAbs ≤ 1200) (h0 : y ≠ 0) : Ct Tryz.prog 16 [aZ x, aZ y] (.tup [aInt (modR x y), aI (modE y)]) :=
  ct2 Tryz.func16 rfl rfl rfl fun w u v h k => (divide_Mod u v x y w h.int k.int (by omega) (by omega) h0 (.inl hy)).mono (by
    rintro e w' ⟨p, rfl, h1, hb⟩
    exact ⟨_, rfl, fun G β => tup_ok (vs := [_, _]) ⟨ok_of_rawV h1.rawV, rfl, trivial⟩, hb⟩)
theorem ct_ModP (x y : Int) (hx : lc x.natAbs ≤ 1200) (hy : lc y.natAbs ≤ 1200) (h0 : 0 < y) : Ct Tryz.prog 16 [aZ x, aZ y] (.tup [zZ (x % y), aI 0]) := by
  have h := ct_Mod x y hx hy (by omega)
  have e1 : modR x y = rawOf (x % y) := by unfold modR; rw [if_neg (by omega), Int.fmod_eq_emod_of_nonneg _ (by omega)]
  have e2 : modE y = 0 := by unfold modE; rw [if_neg (by omega)]
  rwa [e1, e2] at h
theorem wrap_succ {k : Nat} (h : k ≤ 1000000000000) : IntKind.i64.wrap ((k : Int) + 1) = ((k + 1 : Nat) : Int) := by
  have h1 : ((k : Int) + 1) % (2 ^ IntKind.i64.bits : Int) = (k : Int) + 1 := by
    rw [show (2 ^ IntKind.i64.bits : Int) = 18446744073709551616 from rfl]
    exact Int.emod_eq_of_lt (by omega) (by omega)
  have h2 : ¬ ((k : Int) + 1 ≥ (2 ^ (IntKind.i64.bits - 1) : Int)) := by
    rw [show (2 ^ (IntKind.i64.bits - 1) : Int) = 9223372036854775808 from rfl]
    omega
  unfold IntKind.wrap
  simp only [h1, decide_eq_false h2, Bool.and_false, Bool.false_eq_true, if_false]
  omega
theorem ct_right (xs : List Raw) (hl : xs.length ≤ 1000) : Ct Tryz.prog 62 [.val (.one (.st (polyP xs)))] (.val (aB (xs.all rightInt))) := by
  refine ct_of_wp [.tmp 2] [(0, .val (.one (.st (polyP xs))))] 15 Tryz.func62 rfl rfl rfl rfl rfl rfl rfl rfl ?_
  intro G0 w0
  repeat first
    | refine Wp_seq ?_
    | refine Wp_region tm_mixed ?_
    | refine AW_move rfl rfl ?_
    | refine AW_assign rfl rfl ?_
    | refine AW_load rfl ty_num rfl rfl rfl rfl ?_
    | refine AW_store ty_num rfl rfl rfl rfl rfl rfl rfl ?_
    | refine AW_extract rfl rfl rfl ?_
    | refine AW_alloc rfl tz_num ?_
    | refine AW_box rfl rfl (row := true) rfl (fun h => by cases h) rfl ?_
    | refine AW_not rfl rfl ?_
    | refine AW_build rfl tb_num rfl ?_
    | refine AW_call rfl rfl (by first | exact ct_Right _) ?_
    | refine AW_ints rfl tu_nums ti_num ti_size ti_zero rfl rfl rfl (by first | exact .cons _ _ _ _ _ rfl (.cons _ _ _ _ _ rfl (.nil _)) | exact .cons _ _ _ _ _ rfl (.cons _ _ _ _ _ rfl (.cons _ _ _ _ _ rfl (.cons _ _ _ _ _ rfl (.nil _)))) | exact .cons _ _ _ _ _ rfl (.cons _ _ _ _ _ rfl (.cons _ _ _ _ _ rfl (.nil _))) | exact .cons _ _ _ _ _ rfl (.cons _ _ _ _ _ rfl (.cons _ _ _ _ _ rfl (.cons _ _ _ _ _ rfl (.cons _ _ _ _ _ rfl (.nil _)))))) ?_
  
    | refine AW_pickT rfl rfl rfl ?_
    | refine AW_pickF rfl rfl rfl ?_
    | refine AW_skip rfl rfl rfl rfl ?_
    | refine AW_pickTg rfl rfl rfl rfl rfl rfl ?_
    | refine AW_pickFg rfl rfl rfl rfl rfl rfl ?_
    | refine AW_moveg rfl rfl rfl rfl rfl ?_
    | refine AW_notg rfl rfl rfl rfl rfl ?_
    | refine AW_eqg rfl rfl rfl rfl rfl rfl ?_
    | refine AW_eq rfl rfl rfl ?_
    | refine AW_loadg rfl rfl rfl rfl ty_num rfl rfl rfl rfl ?_
    | refine AW_callg rfl rfl rfl rfl rfl (by first | exact ct_Right _) ?_
    | refine AW_nil (fun (h : false = true) => by cases h) ?_
    | refine AW_nil (fun (_ : true = true) => by kernel_rfl) ?_
    | refine Wp_block ?_
    | refine Wp_skip ?_
    | refine Wp_exit ?_
    | refine Wp_ret ?_
  refine AW_quiet rfl (q_lenPoly rfl rfl tu_nums) ?_
  repeat first
    | refine Wp_seq ?_
    | refine Wp_region tm_mixed ?_
    | refine AW_move rfl rfl ?_
    | refine AW_assign rfl rfl ?_
    | refine AW_load rfl ty_num rfl rfl rfl rfl ?_
    | refine AW_store ty_num rfl rfl rfl rfl rfl rfl rfl ?_
    | refine AW_extract rfl rfl rfl ?_
    | refine AW_alloc rfl tz_num ?_
    | refine AW_box rfl rfl (row := true) rfl (fun h => by cases h) rfl ?_
    | refine AW_not rfl rfl ?_
    | refine AW_build rfl tb_num rfl ?_
    | refine AW_call rfl rfl (by first | exact ct_Right _) ?_
    | refine AW_ints rfl tu_nums ti_num ti_size ti_zero rfl rfl rfl (by first | exact .cons _ _ _ _ _ rfl (.cons _ _ _ _ _ rfl (.nil _)) | exact .cons _ _ _ _ _ rfl (.cons _ _ _ _ _ rfl (.cons _ _ _ _ _ rfl (.cons _ _ _ _ _ rfl (.nil _)))) | exact .cons _ _ _ _ _ rfl (.cons _ _ _ _ _ rfl (.cons _ _ _ _ _ rfl (.nil _))) | exact .cons _ _ _ _ _ rfl (.cons _ _ _ _ _ rfl (.cons _ _ _ _ _ rfl (.cons _ _ _ _ _ rfl (.cons _ _ _ _ _ rfl (.nil _)))))) ?_
  
    | refine AW_pickT rfl rfl rfl ?_
    | refine AW_pickF rfl rfl rfl ?_
    | refine AW_skip rfl rfl rfl rfl ?_
    | refine AW_pickTg rfl rfl rfl rfl rfl rfl ?_
    | refine AW_pickFg rfl rfl rfl rfl rfl rfl ?_
    | refine AW_moveg rfl rfl rfl rfl rfl ?_
    | refine AW_notg rfl rfl rfl rfl rfl ?_
    | refine AW_eqg rfl rfl rfl rfl rfl rfl ?_
    | refine AW_eq rfl rfl rfl ?_
    | refine AW_loadg rfl rfl rfl rfl ty_num rfl rfl rfl rfl ?_
    | refine AW_callg rfl rfl rfl rfl rfl (by first | exact ct_Right _) ?_
    | refine AW_nil (fun (h : false = true) => by cases h) ?_
    | refine AW_nil (fun (_ : true = true) => by kernel_rfl) ?_
    | refine Wp_block ?_
    | refine Wp_skip ?_
    | refine Wp_exit ?_
    | refine Wp_ret ?_
  refine Wp_loop (fun k : Nat => ⟨[(5, .val (.one (.st (polyP xs)))), (6, .val (aI (xs.length : Int))), (7, .val (aI (k : Int)))], [], 0⟩) (fun k => k ≤ xs.length ∧ (xs.take k).all rightInt = true) (fun k => xs.length - k) 0 ⟨by omega, by simp⟩ (le_of ⟨rfl, rfl, rfl, trivial⟩ trivial rfl) ?_
  rintro k ⟨hk, hall⟩
  repeat first
    | refine Wp_seq ?_
    | refine Wp_region tm_mixed ?_
    | refine AW_move rfl rfl ?_
    | refine AW_assign rfl rfl ?_
    | refine AW_load rfl ty_num rfl rfl rfl rfl ?_
    | refine AW_store ty_num rfl rfl rfl rfl rfl rfl rfl ?_
    | refine AW_extract rfl rfl rfl ?_
    | refine AW_alloc rfl tz_num ?_
    | refine AW_box rfl rfl (row := true) rfl (fun h => by cases h) rfl ?_
    | refine AW_not rfl rfl ?_
    | refine AW_build rfl tb_num rfl ?_
    | refine AW_call rfl rfl (by first | exact ct_Right _) ?_
    | refine AW_ints rfl tu_nums ti_num ti_size ti_zero rfl rfl rfl (by first | exact .cons _ _ _ _ _ rfl (.cons _ _ _ _ _ rfl (.nil _)) | exact .cons _ _ _ _ _ rfl (.cons _ _ _ _ _ rfl (.cons _ _ _ _ _ rfl (.cons _ _ _ _ _ rfl (.nil _)))) | exact .cons _ _ _ _ _ rfl (.cons _ _ _ _ _ rfl (.cons _ _ _ _ _ rfl (.nil _))) | exact .cons _ _ _ _ _ rfl (.cons _ _ _ _ _ rfl (.cons _ _ _ _ _ rfl (.cons _ _ _ _ _ rfl (.cons _ _ _ _ _ rfl (.nil _)))))) ?_
  
    | refine AW_pickT rfl rfl rfl ?_
    | refine AW_pickF rfl rfl rfl ?_
    | refine AW_skip rfl rfl rfl rfl ?_
    | refine AW_pickTg rfl rfl rfl rfl rfl rfl ?_
    | refine AW_pickFg rfl rfl rfl rfl rfl rfl ?_
    | refine AW_moveg rfl rfl rfl rfl rfl ?_
    | refine AW_notg rfl rfl rfl rfl rfl ?_
    | refine AW_eqg rfl rfl rfl rfl rfl rfl ?_
    | refine AW_eq rfl rfl rfl ?_
    | refine AW_loadg rfl rfl rfl rfl ty_num rfl rfl rfl rfl ?_
    | refine AW_callg rfl rfl rfl rfl rfl (by first | exact ct_Right _) ?_
    | refine AW_nil (fun (h : false = true) => by cases h) ?_
    | refine AW_nil (fun (_ : true = true) => by kernel_rfl) ?_
    | refine Wp_block ?_
    | refine Wp_skip ?_
    | refine Wp_exit ?_
    | refine Wp_ret ?_
  refine AW_quiet rfl (q_lt rfl rfl) ?_
  repeat first
    | refine Wp_seq ?_
    | refine Wp_region tm_mixed ?_
    | refine AW_move rfl rfl ?_
    | refine AW_assign rfl rfl ?_
    | refine AW_load rfl ty_num rfl rfl rfl rfl ?_
    | refine AW_store ty_num rfl rfl rfl rfl rfl rfl rfl ?_
    | refine AW_extract rfl rfl rfl ?_
    | refine AW_alloc rfl tz_num ?_
    | refine AW_box rfl rfl (row := true) rfl (fun h => by cases h) rfl ?_
    | refine AW_not rfl rfl ?_
    | refine AW_build rfl tb_num rfl ?_
    | refine AW_call rfl rfl (by first | exact ct_Right _) ?_
    | refine AW_ints rfl tu_nums ti_num ti_size ti_zero rfl rfl rfl (by first | exact .cons _ _ _ _ _ rfl (.cons _ _ _ _ _ rfl (.nil _)) | exact .cons _ _ _ _ _ rfl (.cons _ _ _ _ _ rfl (.cons _ _ _ _ _ rfl (.cons _ _ _ _ _ rfl (.nil _)))) | exact .cons _ _ _ _ _ rfl (.cons _ _ _ _ _ rfl (.cons _ _ _ _ _ rfl (.nil _))) | exact .cons _ _ _ _ _ rfl (.cons _ _ _ _ _ rfl (.cons _ _ _ _ _ rfl (.cons _ _ _ _ _ rfl (.cons _ _ _ _ _ rfl (.nil _)))))) ?_
  
    | refine AW_pickT rfl rfl rfl ?_
    | refine AW_pickF rfl rfl rfl ?_
    | refine AW_skip rfl rfl rfl rfl ?_
    | refine AW_pickTg rfl rfl rfl rfl rfl rfl ?_
    | refine AW_pickFg rfl rfl rfl rfl rfl rfl ?_
    | refine AW_moveg rfl rfl rfl rfl rfl ?_
    | refine AW_notg rfl rfl rfl rfl rfl ?_
    | refine AW_eqg rfl rfl rfl rfl rfl rfl ?_
    | refine AW_eq rfl rfl rfl ?_
    | refine AW_loadg rfl rfl rfl rfl ty_num rfl rfl rfl rfl ?_
    | refine AW_callg rfl rfl rfl rfl rfl (by first | exact ct_Right _) ?_
    | refine AW_nil (fun (h : false = true) => by cases h) ?_
    | refine AW_nil (fun (_ : true = true) => by kernel_rfl) ?_
    | refine Wp_block ?_
    | refine Wp_skip ?_
    | refine Wp_exit ?_
    | refine Wp_ret ?_
  refine Wp_cond rfl (fun hc => ?_) (fun hc => ?_)
  · have hlt : k < xs.length := by simpa using hc
    obtain ⟨x, hx⟩ : ∃ x, xs[k]? = some x := ⟨_, List.getElem?_eq_getElem hlt⟩
    have hx' : xs.getD k (false, []) = x := by simp [List.getD_eq_getElem?_getD, hx]
    repeat first
      | refine Wp_seq ?_
      | refine Wp_region tm_mixed ?_
      | refine AW_move rfl rfl ?_
      | refine AW_assign rfl rfl ?_
      | refine AW_load rfl ty_num rfl rfl rfl rfl ?_
      | refine AW_store ty_num rfl rfl rfl rfl rfl rfl rfl ?_
      | refine AW_extract rfl rfl rfl ?_
      | refine AW_alloc rfl tz_num ?_
      | refine AW_box rfl rfl (row := true) rfl (fun h => by cases h) rfl ?_
      | refine AW_not rfl rfl ?_
      | refine AW_build rfl tb_num rfl ?_
      | refine AW_call rfl rfl (by first | exact ct_Right _) ?_
      | refine AW_ints rfl tu_nums ti_num ti_size ti_zero rfl rfl rfl (by first | exact .cons _ _ _ _ _ rfl (.cons _ _ _ _ _ rfl (.nil _)) | exact .cons _ _ _ _ _ rfl (.cons _ _ _ _ _ rfl (.cons _ _ _ _ _ rfl (.cons _ _ _ _ _ rfl (.nil _)))) | exact .cons _ _ _ _ _ rfl (.cons _ _ _ _ _ rfl (.cons _ _ _ _ _ rfl (.nil _))) | exact .cons _ _ _ _ _ rfl (.cons _ _ _ _ _ rfl (.cons _ _ _ _ _ rfl (.cons _ _ _ _ _ rfl (.cons _ _ _ _ _ rfl (.nil _)))))) ?_
  
      | refine AW_pickT rfl rfl rfl ?_
      | refine AW_pickF rfl rfl rfl ?_
      | refine AW_skip rfl rfl rfl rfl ?_
      | refine AW_pickTg rfl rfl rfl rfl rfl rfl ?_
      | refine AW_pickFg rfl rfl rfl rfl rfl rfl ?_
      | refine AW_moveg rfl rfl rfl rfl rfl ?_
      | refine AW_notg rfl rfl rfl rfl rfl ?_
      | refine AW_eqg rfl rfl rfl rfl rfl rfl ?_
      | refine AW_eq rfl rfl rfl ?_
      | refine AW_loadg rfl rfl rfl rfl ty_num rfl rfl rfl rfl ?_
      | refine AW_callg rfl rfl rfl rfl rfl (by first | exact ct_Right _) ?_
      | refine AW_nil (fun (h : false = true) => by cases h) ?_
      | refine AW_nil (fun (_ : true = true) => by kernel_rfl) ?_
      | refine Wp_block ?_
      | refine Wp_skip ?_
      | refine Wp_exit ?_
      | refine Wp_ret ?_
    refine AW_quiet rfl (q_polyAt rfl rfl hx tu_nums ts_num) ?_
    refine AW_quiet rfl (q_loadP rfl ty_num) ?_
    repeat first
      | refine Wp_seq ?_
      | refine Wp_region tm_mixed ?_
      | refine AW_move rfl rfl ?_
      | refine AW_assign rfl rfl ?_
      | refine AW_load rfl ty_num rfl rfl rfl rfl ?_
      | refine AW_store ty_num rfl rfl rfl rfl rfl rfl rfl ?_
      | refine AW_extract rfl rfl rfl ?_
      | refine AW_alloc rfl tz_num ?_
      | refine AW_box rfl rfl (row := true) rfl (fun h => by cases h) rfl ?_
      | refine AW_not rfl rfl ?_
      | refine AW_build rfl tb_num rfl ?_
      | refine AW_call rfl rfl (by first | exact ct_Right _) ?_
      | refine AW_ints rfl tu_nums ti_num ti_size ti_zero rfl rfl rfl (by first | exact .cons _ _ _ _ _ rfl (.cons _ _ _ _ _ rfl (.nil _)) | exact .cons _ _ _ _ _ rfl (.cons _ _ _ _ _ rfl (.cons _ _ _ _ _ rfl (.cons _ _ _ _ _ rfl (.nil _)))) | exact .cons _ _ _ _ _ rfl (.cons _ _ _ _ _ rfl (.cons _ _ _ _ _ rfl (.nil _))) | exact .cons _ _ _ _ _ rfl (.cons _ _ _ _ _ rfl (.cons _ _ _ _ _ rfl (.cons _ _ _ _ _ rfl (.cons _ _ _ _ _ rfl (.nil _)))))) ?_
  
      | refine AW_pickT rfl rfl rfl ?_
      | refine AW_pickF rfl rfl rfl ?_
      | refine AW_skip rfl rfl rfl rfl ?_
      | refine AW_pickTg rfl rfl rfl rfl rfl rfl ?_
      | refine AW_pickFg rfl rfl rfl rfl rfl rfl ?_
      | refine AW_moveg rfl rfl rfl rfl rfl ?_
      | refine AW_notg rfl rfl rfl rfl rfl ?_
      | refine AW_eqg rfl rfl rfl rfl rfl rfl ?_
      | refine AW_eq rfl rfl rfl ?_
      | refine AW_loadg rfl rfl rfl rfl ty_num rfl rfl rfl rfl ?_
      | refine AW_callg rfl rfl rfl rfl rfl (by first | exact ct_Right _) ?_
      | refine AW_nil (fun (h : false = true) => by cases h) ?_
      | refine AW_nil (fun (_ : true = true) => by kernel_rfl) ?_
      | refine Wp_block ?_
      | refine Wp_skip ?_
      | refine Wp_exit ?_
      | refine Wp_ret ?_
    refine Wp_cond rfl (fun hc => ?_) (fun hc => ?_)
    · repeat first
        | refine Wp_seq ?_
        | refine Wp_region tm_mixed ?_
        | refine AW_move rfl rfl ?_
        | refine AW_assign rfl rfl ?_
        | refine AW_load rfl ty_num rfl rfl rfl rfl ?_
        | refine AW_store ty_num rfl rfl rfl rfl rfl rfl rfl ?_
        | refine AW_extract rfl rfl rfl ?_
        | refine AW_alloc rfl tz_num ?_
        | refine AW_box rfl rfl (row := true) rfl (fun h => by cases h) rfl ?_
        | refine AW_not rfl rfl ?_
        | refine AW_build rfl tb_num rfl ?_
        | refine AW_call rfl rfl (by first | exact ct_Right _) ?_
        | refine AW_ints rfl tu_nums ti_num ti_size ti_zero rfl rfl rfl (by first | exact .cons _ _ _ _ _ rfl (.cons _ _ _ _ _ rfl (.nil _)) | exact .cons _ _ _ _ _ rfl (.cons _ _ _ _ _ rfl (.cons _ _ _ _ _ rfl (.cons _ _ _ _ _ rfl (.nil _)))) | exact .cons _ _ _ _ _ rfl (.cons _ _ _ _ _ rfl (.cons _ _ _ _ _ rfl (.nil _))) | exact .cons _ _ _ _ _ rfl (.cons _ _ _ _ _ rfl (.cons _ _ _ _ _ rfl (.cons _ _ _ _ _ rfl (.cons _ _ _ _ _ rfl (.nil _)))))) ?_
  
        | refine AW_pickT rfl rfl rfl ?_
        | refine AW_pickF rfl rfl rfl ?_
        | refine AW_skip rfl rfl rfl rfl ?_
        | refine AW_pickTg rfl rfl rfl rfl rfl rfl ?_
        | refine AW_pickFg rfl rfl rfl rfl rfl rfl ?_
        | refine AW_moveg rfl rfl rfl rfl rfl ?_
        | refine AW_notg rfl rfl rfl rfl rfl ?_
        | refine AW_eqg rfl rfl rfl rfl rfl rfl ?_
        | refine AW_eq rfl rfl rfl ?_
        | refine AW_loadg rfl rfl rfl rfl ty_num rfl rfl rfl rfl ?_
        | refine AW_callg rfl rfl rfl rfl rfl (by first | exact ct_Right _) ?_
        | refine AW_nil (fun (h : false = true) => by cases h) ?_
        | refine AW_nil (fun (_ : true = true) => by kernel_rfl) ?_
        | refine Wp_block ?_
        | refine Wp_skip ?_
        | refine Wp_exit ?_
        | refine Wp_ret ?_
      refine ⟨.inr rfl, _, .tmp _ _ _ _ rfl .nil, ?_⟩
      rw [not_all_of hlt (by rw [hx']; simpa using hc)]
      rfl
    · repeat first
        | refine Wp_seq ?_
        | refine Wp_region tm_mixed ?_
        | refine AW_move rfl rfl ?_
        | refine AW_assign rfl rfl ?_
        | refine AW_load rfl ty_num rfl rfl rfl rfl ?_
        | refine AW_store ty_num rfl rfl rfl rfl rfl rfl rfl ?_
        | refine AW_extract rfl rfl rfl ?_
        | refine AW_alloc rfl tz_num ?_
        | refine AW_box rfl rfl (row := true) rfl (fun h => by cases h) rfl ?_
        | refine AW_not rfl rfl ?_
        | refine AW_build rfl tb_num rfl ?_
        | refine AW_call rfl rfl (by first | exact ct_Right _) ?_
        | refine AW_ints rfl tu_nums ti_num ti_size ti_zero rfl rfl rfl (by first | exact .cons _ _ _ _ _ rfl (.cons _ _ _ _ _ rfl (.nil _)) | exact .cons _ _ _ _ _ rfl (.cons _ _ _ _ _ rfl (.cons _ _ _ _ _ rfl (.cons _ _ _ _ _ rfl (.nil _)))) | exact .cons _ _ _ _ _ rfl (.cons _ _ _ _ _ rfl (.cons _ _ _ _ _ rfl (.nil _))) | exact .cons _ _ _ _ _ rfl (.cons _ _ _ _ _ rfl (.cons _ _ _ _ _ rfl (.cons _ _ _ _ _ rfl (.cons _ _ _ _ _ rfl (.nil _)))))) ?_
  
        | refine AW_pickT rfl rfl rfl ?_
        | refine AW_pickF rfl rfl rfl ?_
        | refine AW_skip rfl rfl rfl rfl ?_
        | refine AW_pickTg rfl rfl rfl rfl rfl rfl ?_
        | refine AW_pickFg rfl rfl rfl rfl rfl rfl ?_
        | refine AW_moveg rfl rfl rfl rfl rfl ?_
        | refine AW_notg rfl rfl rfl rfl rfl ?_
        | refine AW_eqg rfl rfl rfl rfl rfl rfl ?_
        | refine AW_eq rfl rfl rfl ?_
        | refine AW_loadg rfl rfl rfl rfl ty_num rfl rfl rfl rfl ?_
        | refine AW_callg rfl rfl rfl rfl rfl (by first | exact ct_Right _) ?_
        | refine AW_nil (fun (h : false = true) => by cases h) ?_
        | refine AW_nil (fun (_ : true = true) => by kernel_rfl) ?_
        | refine Wp_block ?_
        | refine Wp_skip ?_
        | refine Wp_exit ?_
        | refine Wp_ret ?_
      refine AW_quiet rfl (q_add rfl rfl) ?_
      repeat first
        | refine Wp_seq ?_
        | refine Wp_region tm_mixed ?_
        | refine AW_move rfl rfl ?_
        | refine AW_assign rfl rfl ?_
        | refine AW_load rfl ty_num rfl rfl rfl rfl ?_
        | refine AW_store ty_num rfl rfl rfl rfl rfl rfl rfl ?_
        | refine AW_extract rfl rfl rfl ?_
        | refine AW_alloc rfl tz_num ?_
        | refine AW_box rfl rfl (row := true) rfl (fun h => by cases h) rfl ?_
        | refine AW_not rfl rfl ?_
        | refine AW_build rfl tb_num rfl ?_
        | refine AW_call rfl rfl (by first | exact ct_Right _) ?_
        | refine AW_ints rfl tu_nums ti_num ti_size ti_zero rfl rfl rfl (by first | exact .cons _ _ _ _ _ rfl (.cons _ _ _ _ _ rfl (.nil _)) | exact .cons _ _ _ _ _ rfl (.cons _ _ _ _ _ rfl (.cons _ _ _ _ _ rfl (.cons _ _ _ _ _ rfl (.nil _)))) | exact .cons _ _ _ _ _ rfl (.cons _ _ _ _ _ rfl (.cons _ _ _ _ _ rfl (.nil _))) | exact .cons _ _ _ _ _ rfl (.cons _ _ _ _ _ rfl (.cons _ _ _ _ _ rfl (.cons _ _ _ _ _ rfl (.cons _ _ _ _ _ rfl (.nil _)))))) ?_
  
        | refine AW_pickT rfl rfl rfl ?_
        | refine AW_pickF rfl rfl rfl ?_
        | refine AW_skip rfl rfl rfl rfl ?_
        | refine AW_pickTg rfl rfl rfl rfl rfl rfl ?_
        | refine AW_pickFg rfl rfl rfl rfl rfl rfl ?_
        | refine AW_moveg rfl rfl rfl rfl rfl ?_
        | refine AW_notg rfl rfl rfl rfl rfl ?_
        | refine AW_eqg rfl rfl rfl rfl rfl rfl ?_
        | refine AW_eq rfl rfl rfl ?_
        | refine AW_loadg rfl rfl rfl rfl ty_num rfl rfl rfl rfl ?_
        | refine AW_callg rfl rfl rfl rfl rfl (by first | exact ct_Right _) ?_
        | refine AW_nil (fun (h : false = true) => by cases h) ?_
        | refine AW_nil (fun (_ : true = true) => by kernel_rfl) ?_
        | refine Wp_block ?_
        | refine Wp_skip ?_
        | refine Wp_exit ?_
        | refine Wp_ret ?_
      refine ⟨k + 1, ⟨hlt, ?_⟩, le_of ⟨rfl, rfl, ?_, trivial⟩ trivial rfl, by omega⟩
      · rw [all_take_succ hlt, hall, hx']; simpa using hc
      · rw [← wrap_succ (by omega)]; rfl
  · have hge : k = xs.length := by have : ¬ k < xs.length := by simpa using hc
                                   omega
    repeat first
      | refine Wp_seq ?_
      | refine Wp_region tm_mixed ?_
      | refine AW_move rfl rfl ?_
      | refine AW_assign rfl rfl ?_
      | refine AW_load rfl ty_num rfl rfl rfl rfl ?_
      | refine AW_store ty_num rfl rfl rfl rfl rfl rfl rfl ?_
      | refine AW_extract rfl rfl rfl ?_
      | refine AW_alloc rfl tz_num ?_
      | refine AW_box rfl rfl (row := true) rfl (fun h => by cases h) rfl ?_
      | refine AW_not rfl rfl ?_
      | refine AW_build rfl tb_num rfl ?_
      | refine AW_call rfl rfl (by first | exact ct_Right _) ?_
      | refine AW_ints rfl tu_nums ti_num ti_size ti_zero rfl rfl rfl (by first | exact .cons _ _ _ _ _ rfl (.cons _ _ _ _ _ rfl (.nil _)) | exact .cons _ _ _ _ _ rfl (.cons _ _ _ _ _ rfl (.cons _ _ _ _ _ rfl (.cons _ _ _ _ _ rfl (.nil _)))) | exact .cons _ _ _ _ _ rfl (.cons _ _ _ _ _ rfl (.cons _ _ _ _ _ rfl (.nil _))) | exact .cons _ _ _ _ _ rfl (.cons _ _ _ _ _ rfl (.cons _ _ _ _ _ rfl (.cons _ _ _ _ _ rfl (.cons _ _ _ _ _ rfl (.nil _)))))) ?_
  
      | refine AW_pickT rfl rfl rfl ?_
      | refine AW_pickF rfl rfl rfl ?_
      | refine AW_skip rfl rfl rfl rfl ?_
      | refine AW_pickTg rfl rfl rfl rfl rfl rfl ?_
      | refine AW_pickFg rfl rfl rfl rfl rfl rfl ?_
      | refine AW_moveg rfl rfl rfl rfl rfl ?_
      | refine AW_notg rfl rfl rfl rfl rfl ?_
      | refine AW_eqg rfl rfl rfl rfl rfl rfl ?_
      | refine AW_eq rfl rfl rfl ?_
      | refine AW_loadg rfl rfl rfl rfl ty_num rfl rfl rfl rfl ?_
      | refine AW_callg rfl rfl rfl rfl rfl (by first | exact ct_Right _) ?_
      | refine AW_nil (fun (h : false = true) => by cases h) ?_
      | refine AW_nil (fun (_ : true = true) => by kernel_rfl) ?_
      | refine Wp_block ?_
      | refine Wp_skip ?_
      | refine Wp_exit ?_
      | refine Wp_ret ?_
    refine ⟨.inr rfl, _, .tmp _ _ _ _ rfl .nil, ?_⟩
    rw [hge, List.take_of_length_le (Nat.le_refl _)] at hall
    rw [hall]
    rfl
end Go.Proofs.YtonbhpadoplpkaaGreat
/- The package rosettekit: what is lent (limbs with marks behind them), and whether it was kept. -/
namespace Go.Proofs.YtonbhpadoplpkaaGreat
open Go.RowKit Go.Deep
/-- The marks behind what is lent. -/
def markN (i : Nat) : Nat := 8000024 + i
def marks (n : Nat) : List Nat := (List.range n).map markN
theorem marks_length (n : Nat) : (marks n).length = n := by simp [marks]
theorem marks_succ (n : Nat) : marks (n + 1) = marks n ++ [markN n] := by simp [marks, List.range_succ]
theorem markN_lt {i : Nat} (h : i ≤ 4294967296) : markN i < W64 := by unfold markN; rw [W64_eq]; omega
theorem marks_getD {n i : Nat} (h : i < n) : (marks n).getD i 0 = markN i := by simp [marks, h]
theorem lent_getD_lo {xs ms : List Nat} {i : Nat} (h : i < xs.length) : (xs ++ ms).getD i 0 = xs.getD i 0 := by
  simp [List.getElem?_append_left h]
theorem lent_getD_hi {xs : List Nat} {i j n : Nat} (hi : i = xs.length + j) (h : j < n) : (xs ++ marks n).getD i 0 = markN j := by
  subst hi
  rw [List.getD_eq_getElem?_getD, List.getElem?_append_right (by omega), Nat.add_sub_cancel_left, ← List.getD_eq_getElem?_getD, marks_getD h]
theorem make_limbs_cap0 (c : Nat) (h : c ≤ 35184372088832) : ∀ W : World, (Instr.makeSlice 22 (.int .i64 0) (.int .i64 (c : Int))).run Tryz.prog W = .ok (.slice (some ⟨W.heap.size, 0, none⟩) 0 c) (W.alloc (.cells (madeCells #[.int .u64 0] c) 85)) := by
  intro W
  obtain ⟨i0, hi, hz0, hz1, hz2⟩ := info_parts info_u64
  have hr := run_make (P := Tryz.prog) W 22 85 i0 (.int .u64 0) Tryz.underlying22 hi hz0 .i64 .i64 0 c (by omega) (by omega) (by rw [hz2]; omega) (by omega)
  simp only [Int.toNat_natCast, hz1, Nat.mul_one] at hr
  exact hr
theorem kit_mark (k i : Nat) (w : World) (hk : k ≤ 1000) (hi : i ≤ 1000000000000) :
    Calls Tryz.prog 87 #[.int .i64 (k : Int), .int .i64 (i : Int)] w fun e w' => e = .returned (.int .i64 (1000003 * ((k : Int) + 7) + (i : Int))) ∧ w = w' := by
  have hkI : (k : Int) ≤ 1000 := by omega
  have hiI : (i : Int) ≤ 1000000000000 := by omega
  clear hk hi
  go_enter Tryz.func87, Tryz.ntmps87
  go_wp2_with fail
  go_ret
  exact ⟨rfl, rfl⟩
set_option maxRecDepth 100000 in
theorem kit_lent (A : Option Addr) (l c : Nat) (xs : List Nat) (w : World) (h1 : Lim w w.heap.size A xs) (e1 : l = xs.length) (hl : l ≤ 1099511627776) :
    Calls Tryz.prog 46 #[.slice A l c] w fun e w' => ∃ A' c', e = .returned (.slice A' l c') ∧ l + 12 ≤ c' ∧ Lim w' w'.heap.size A' (xs ++ marks 12) ∧ Fresh w' w.heap.size A' c' ∧ Below w.heap.size w w' := by
  have hmk := make_limbs_cap0 (l + 12) (by omega)
  rw [Int.natCast_add, show ((12 : Nat) : Int) = 12 from rfl] at hmk
  have hlI : (l : Int) ≤ 1099511627776 := by omega
  have H1 := Lib.hid h1
  have E1 := Lib.hid e1
  clear h1 e1 hl
  go_enter Tryz.func46, Tryz.ntmps46
  go_upto_region 2 with (fail)
  obtain ⟨W0, hW0⟩ : ∃ W, w.alloc (.cells (madeCells #[.int .u64 0] (l + 12)) 85) = W := ⟨_, rfl⟩
  have hb0 : Below w.heap.size w W0 := by rw [← hW0]; exact (Below.refl _ _).alloc (Nat.le_refl _) _
  have HO := Lib.hid (show Own W0 w.heap.size (.slice (some ⟨w.heap.size, 0, none⟩) 0 (l + 12)) [] by rw [← hW0]; exact Own.made w w.heap.size 0 (l + 12) (Nat.le_refl _) (by omega) (by omega))
  have HB := Lib.hid hb0
  rw [hW0]
  clear hW0 hb0 hmk
  go_wp2_with (at_builtin; refine append_lim (w0 := w) w.heap.size rfl _ _ rfl _ [] A l c xs (by rfl) (by rfl) E1.out (H1.out.below HB.out) HO.out HB.out HB.out.size (by have := E1.out; simp; omega) fun v1 w1 hown hbel hgrow _ => ?_)
  have HO1 := Lib.hid (show Own w1 w.heap.size v1 (xs ++ marks 0) by simpa [marks] using hown)
  have HB1 := Lib.hid hbel
  clear hown hbel hgrow HO HB
  go_wp2_with fail
  go_loopw [3, 4] (fun t3 t4 wr => ∃ k : Nat, k ≤ 12 ∧ t4 = .int .i64 (k : Int) ∧ Hid (Own wr w.heap.size t3 (xs ++ marks k)) ∧ Hid (Below w.heap.size w wr)) (fun _ t4 _ => 12 - (intOf t4).toNat)
  case atStart => exact ⟨0, by omega, rfl, HO1, HB1⟩
  case round =>
    clear HO1 HB1
    obtain ⟨k, hk, rfl, HO, HB⟩ := hrel
    by_cases hlt : k < 12
    · have hltI : (k : Int) < 12 := by omega
      go_wp2_with fail
      refine (kit_mark 1 k _ (by omega) (by omega)).mono ?_
      rintro e w2 ⟨rfl, rfl⟩
      have e1 : 1000003 * (((1 : Nat) : Int) + 7) + (k : Int) = (markN k : Int) := by unfold markN; omega
      rw [e1]
      have HM := Lib.hid (markN_lt (i := k) (by omega))
      have HS := Lib.hid (show (xs ++ marks k).length + 1 ≤ 17592186044416 by rw [List.length_append, marks_length, ← E1.out]; omega)
      have mI := lt_W64 HM.out
      obtain ⟨m, hm⟩ : ∃ m, markN k = m := ⟨_, rfl⟩
      rw [hm] at HM mI ⊢
      have HMK := Lib.hid hm
      clear hm e1
      obtain ⟨A3, k3, c3, rfl⟩ := HO.out.slice
      go_wp2_with (at_builtin; refine append_one (w0 := w) w.heap.size rfl _ _ rfl _ (xs ++ marks k) m (by rfl) (by rfl) HM.out HO.out HB.out HB.out.size HS.out fun v2 w2 hown hbel _ => ?_)
      go_wp2_with fail
      exact ⟨⟨k + 1, by omega, by go_num, Lib.hid (by rw [marks_succ, ← List.append_assoc, HMK.out]; exact hown), Lib.hid hbel⟩, by simp [intOf]; omega⟩
    · obtain rfl : k = 12 := by omega
      obtain ⟨A3, c3, hv, hc, hlim, _⟩ := HO.out.form
      subst hv
      have HF := Lib.hid HO.out.fresh
      have HC := Lib.hid (show l + 12 ≤ c3 by rw [List.length_append, marks_length, ← E1.out] at hc; exact hc)
      have HL := Lib.hid hlim
      have hcI : (l : Int) ≤ (c3 : Int) := by have := HC.out; omega
      clear hlim hc
      go_wp2_with fail
      go_ret
      exact ⟨A3, c3, rfl, HC.out, HL.out, HF.out, HB.out⟩
theorem wraps_sub {l j : Nat} (h : j ≤ 1000000) : IntKind.i64.wrap ((l : Int) + (j : Int) - (l : Int)) = (j : Int) ∧ wrap64 ((l : Int) + (j : Int) - (l : Int)) = (j : Int) := by
  have e : (l : Int) + (j : Int) - (l : Int) = (j : Int) := by omega
  rw [e]
  exact ⟨by rw [IntKind.wrap_i64]; omega, by unfold wrap64; omega⟩
set_option maxHeartbeats 1000000 in
set_option maxRecDepth 100000 in
theorem kit_kept (A1 A2 : Option Addr) (l c1 c2 : Nat) (xs : List Nat) (w : World) (h1 : Lim w w.heap.size A1 (xs ++ marks 12)) (h2 : Lim w w.heap.size A2 xs) (e1 : l = xs.length) (hc : l + 12 ≤ c1) (hl : l ≤ 1099511627776) :
    Calls Tryz.prog 52 #[.slice A1 l c1, .slice A2 l c2] w fun e w' => e = .returned (.bool true) ∧ Below w.heap.size w w' := by
  have hlI : (l : Int) ≤ 1099511627776 := by omega
  have hcI : (l : Int) + 12 ≤ (c1 : Int) := by omega
  have E1 := Lib.hid e1
  have H1 := Lib.hid h1
  have H2 := Lib.hid h2
  have ha := h1.at_ (k := 0) (by rw [List.length_append, marks_length]; omega)
  obtain ⟨ad, rfl, _, _⟩ := ha
  clear h1 h2 e1 hl hc
  go_enter Tryz.func52, Tryz.ntmps52
  go_wp2_with fail
  go_loopw [6] (fun t6 wr => ∃ k : Nat, k ≤ l + 12 ∧ t6 = .int .i64 (k : Int) ∧ Hid (Below w.heap.size w wr)) (fun t6 _ => l + 12 - (intOf t6).toNat)
  case atStart => exact ⟨0, by omega, rfl, Lib.hid (Below.refl _ _)⟩
  case round =>
    obtain ⟨k, hk, rfl, HB⟩ := hrel
    by_cases hlt : k < l + 12
    · have hltI : (k : Int) < (l : Int) + 12 := by omega
      obtain ⟨ad', had, _, hcell⟩ := ((H1.out.below HB.out)).at_ (k := k) (by rw [List.length_append, marks_length, ← E1.out]; exact hlt)
      injection had with had
      subst had
      by_cases hkl : k < l
      · obtain ⟨ad2, rfl, _, hcell2⟩ := ((H2.out.below HB.out)).at_ (k := k) (by rw [← E1.out]; exact hkl)
        rw [lent_getD_lo (by rw [← E1.out]; exact hkl)] at hcell
        obtain ⟨x, hx⟩ : ∃ x, xs.getD k 0 = x := ⟨_, rfl⟩
        rw [hx] at hcell hcell2
        have hI : (k : Int) < (l : Int) := by omega
        have hg : decide (l ≤ k) = false := decide_eq_false (by omega)
        have hg2 : decide (k < l) = true := decide_eq_true hkl
        clear hx hlt hkl
        go_upto_region 7 with (fail)
        go_quiet (fail)
        go_wp2_with fail
        exact ⟨⟨k + 1, by omega, by go_num, Lib.hid (below_drewN HB.out _)⟩, by simp [intOf]; omega⟩
      · obtain ⟨j, rfl⟩ : ∃ j, k = l + j := ⟨k - l, by omega⟩
        rw [lent_getD_hi (j := j) (by rw [E1.out]) (by omega)] at hcell
        have hg : decide (l ≤ l + j) = true := decide_eq_true (by omega)
        have hg2 : decide (l + j < l) = false := decide_eq_false (by omega)
        have hj : j < 12 := by omega
        have e1 : 1000003 * (((1 : Nat) : Int) + 7) + (j : Int) = (markN j : Int) := by unfold markN; omega
        have hmk := fun W => kit_mark 1 j W (by omega) (by omega)
        rw [e1] at hmk
        have HMK := Lib.hid hmk
        have HM := Lib.hid (lt_W64 (markN_lt (i := j) (by omega)))
        obtain ⟨m, hm⟩ : ∃ m, markN j = m := ⟨_, rfl⟩
        rw [hm] at hcell HMK HM
        have mI := HM.out
        obtain ⟨hw1, hw2⟩ := wraps_sub (l := l) (j := j) (by omega)
        have hjI : (j : Int) < 12 := by omega
        have hNI : ¬ (l : Int) + (j : Int) < (l : Int) := by omega
        have hPI : (l : Int) ≤ (l : Int) + (j : Int) := by omega
        clear hm e1 hmk hlt hkl hj
        go_upto_region 7 with (fail)
        go_quiet ((go_at_call 87; exact quiet_left (HMK.out _)))
        clear hw1 hw2
        go_wp2_with fail
        exact ⟨⟨l + j + 1, by omega, by go_num, Lib.hid (below_drewN HB.out _)⟩, by simp [intOf]; omega⟩
    · obtain rfl : k = l + 12 := by omega
      have hnI : ¬ ((l : Int) + 12 < (l : Int) + 12) := by omega
      clear hlt hk
      go_wp2_with fail
      go_ret
      exact ⟨rfl, HB.out⟩
/-- A record whose limbs are lent. -/
def LentV (w : World) (v : Value) (x : Raw) : Prop := ∃ A l c, v = .agg #[.bool x.1, .slice A l c] ∧ l = x.2.length ∧ l + 12 ≤ c ∧ Lim w w.heap.size A (x.2 ++ marks 12)
theorem LentV.stay {w w' : World} {v : Value} {x : Raw} (h : LentV w v x) (hb : Below w.heap.size w w') : LentV w' v x := by
  obtain ⟨A, l, c, rfl, hl, hc, hlim⟩ := h
  exact ⟨A, l, c, rfl, hl, hc, hlim.stay hb⟩
theorem LentV.put {w w' : World} {g : Nat} {v : Value} {x : Raw} (h : LentV w v x) (p : Put g w w') : LentV w' v x := by
  obtain ⟨A, l, c, rfl, hl, hc, hlim⟩ := h
  exact ⟨A, l, c, rfl, hl, hc, hlim.put p⟩
theorem LentV.raw {w : World} {v : Value} {x : Raw} (h : LentV w v x) : RawV w v x := by
  obtain ⟨A, l, c, rfl, hl, hc, hlim⟩ := h
  refine ⟨A, l, c, rfl, hl, by omega, ?_⟩
  have := hlim.take x.2.length
  rwa [List.take_left] at this
theorem LentV.open {w : World} {v : Value} {x : Raw} (h : LentV w v x) : ∃ b A l c, v = .agg #[.bool b, .slice A l c] ∧ Hid (LentV w (.agg #[.bool b, .slice A l c]) x) := by
  obtain ⟨A, l, c, rfl, hl, hc, hlim⟩ := h
  exact ⟨x.1, A, l, c, rfl, Lib.hid ⟨A, l, c, rfl, hl, hc, hlim⟩⟩
theorem LentV.parts {w : World} {b : Bool} {A : Option Addr} {l c : Nat} {x : Raw} (h : LentV w (.agg #[.bool b, .slice A l c]) x) : b = x.1 ∧ l = x.2.length ∧ l + 12 ≤ c ∧ Lim w w.heap.size A (x.2 ++ marks 12) := by
  obtain ⟨A', l', c', hv, hl, hc, hlim⟩ := h
  injection hv with hv
  have h0 := congrArg (fun a => a[0]?) hv
  have h1 := congrArg (fun a => a[1]?) hv
  simp at h0 h1
  obtain ⟨rfl, rfl, rfl⟩ := h1
  exact ⟨h0, hl, hc, hlim⟩
theorem Box2.write1 {w : World} {g : Nat} {b : Bool} {A : Option Addr} {l c : Nat} (h : Box2 w g (.bool b) (.slice A l c)) (y : Value) :
    ∃ W, w.setCell ⟨g, 1, none⟩ y = W ∧ Hid (Box2 W g (.bool b) y) ∧ Put g w W := by
  refine ⟨_, rfl, Lib.hid ?_, ⟨?_, fun _ _ _ hf => Fresh.set hf g 1 y⟩⟩
  · unfold Box2 at h ⊢
    simp [World.setCell, Array.getElem?_modify, h]
  · refine ⟨rfl, rfl, rfl, by simp, fun i hi hn => ?_, fun i hi _ => by subst hi; exact h.nums⟩
    rw [Below.heap_setCell _ _ _ i (by simpa using hn)]
set_option maxRecDepth 100000 in
theorem kit_lentInt (v : Value) (x : Raw) (w : World) (hv : RawV w v x) (hl : x.2.length ≤ 1099511627776) :
    Calls Tryz.prog 12 #[v] w fun e w' => ∃ u, e = .returned u ∧ LentV w' u x ∧ Below w.heap.size w w' := by
  obtain ⟨b1, A1, l1, c1, rfl, HV⟩ := hv.open
  have HL := Lib.hid hl
  have HP := Lib.hid HV.out.parts
  clear hv hl
  go_enter Tryz.func12, Tryz.ntmps12
  go_wp2_with fail
  obtain ⟨W0, g, r, hW, hg, hr, bx, br, G_g, S_W0, hb⟩ := boxH2 w (.bool b1) (.slice A1 l1 c1) (.bool false) (.slice none 0 0)
  rw [hW, hr, hg]
  replace HV := Lib.hid (HV.out.stay hb)
  have B_W0 := Lib.hid (show Since w W0 from hb)
  clear hW hg hr hb
  have a0 := bx.out.cell0
  have a1 := bx.out.cell1
  go_wp2_with fail
  refine (kit_lent A1 l1 c1 x.2 W0 HV.out.parts.2.2.2 HP.out.2.1 (by have := HP.out.2.1; have := HL.out; omega)).mono ?_
  rintro e w1 ⟨A, c, rfl, hc, hlim, hf, hb⟩
  have HN := Lib.hid (show LentV w1 (.agg #[.bool b1, .slice A l1 c]) x from ⟨A, l1, c, by rw [HP.out.1], HP.out.2.1, hc, hlim⟩)
  replace bx := Lib.hid (bx.out.stay hb)
  replace br := Lib.hid (br.out.stay hb)
  replace B_W0 := Lib.hid (B_W0.out.stay hb)
  clear hc hlim hf hb a0 a1
  have a0 := bx.out.cell0
  have a1 := bx.out.cell1
  have fr := bx.out.free
  go_upto_region 2 with (fail)
  obtain ⟨W1, hW1, bx', p⟩ := bx.out.write1 (.slice A l1 c)
  rw [hW1]
  have HGG := Lib.hid (show w.heap.size ≤ g ∧ w.heap.size ≤ r ∧ r ≠ g by have := G_g.out; omega)
  replace HN := Lib.hid (HN.out.put p)
  replace br := Lib.hid (br.out.put p HGG.out.2.2)
  replace B_W0 := Lib.hid (B_W0.out.put p HGG.out.1)
  clear hW1 p bx a0 a1 fr
  have a0 := bx'.out.cell0
  have a1 := bx'.out.cell1
  have k0 := br.out.cell0
  have k1 := br.out.cell1
  have fr := br.out.free
  go_wp2_with fail
  refine bodyPost_ret (results_cell_row rfl _ _ r 24 #[.bool b1, (.slice A l1 c)] (0, 0) _ (by rfl) br.out.store Tryz.underlying24 rfl (by kernel_rfl)) rfl ?_
  obtain ⟨W2, hW2, br', p⟩ := br.out.write (.bool b1) (.slice A l1 c)
  rw [hW2]
  exact ⟨_, rfl, HN.out.put p, B_W0.out.put p HGG.out.2.1⟩
set_option maxRecDepth 100000 in
theorem kit_keptInt (u v : Value) (x : Raw) (w : World) (hu : LentV w u x) (hv : RawV w v x) (hl : x.2.length ≤ 1099511627776) :
    Calls Tryz.prog 17 #[u, v] w fun e w' => e = .returned (.bool true) ∧ Below w.heap.size w w' := by
  obtain ⟨b1, A1, l1, c1, rfl, HU⟩ := hu.open
  obtain ⟨b2, A2, l2, c2, rfl, HV⟩ := hv.open
  have HL := Lib.hid hl
  have HP := Lib.hid HU.out.parts
  have HQ := Lib.hid HV.out.parts
  clear hu hv hl
  go_enter Tryz.func17, Tryz.ntmps17
  go_wp2_with fail
  obtain ⟨W0, g, r, hW, hg, hr, bx, br, G_g, S_W0, hb⟩ := boxH2 w (.bool b1) (.slice A1 l1 c1) (.bool b2) (.slice A2 l2 c2)
  rw [hW, hr, hg]
  replace HU := Lib.hid (HU.out.stay hb)
  replace HV := Lib.hid (HV.out.stay hb)
  have B_W0 := Lib.hid (show Since w W0 from hb)
  clear hW hg hr hb
  have a0 := bx.out.cell0
  have a1 := bx.out.cell1
  have k0 := br.out.cell0
  have k1 := br.out.cell1
  go_wp2_with fail
  refine (kit_raw _ _ x x W0 HU.out.raw HV.out HL.out).mono ?_
  rintro e w1 ⟨rfl, hb⟩
  rw [decide_eq_true rfl]
  replace HU := Lib.hid (HU.out.stay hb)
  replace HV := Lib.hid (HV.out.stay hb)
  replace bx := Lib.hid (bx.out.stay hb)
  replace br := Lib.hid (br.out.stay hb)
  replace B_W0 := Lib.hid (B_W0.out.stay hb)
  clear hb a0 a1 k0 k1
  have a0 := bx.out.cell0
  have a1 := bx.out.cell1
  have k0 := br.out.cell0
  have k1 := br.out.cell1
  go_wp2_with fail
  have C := kit_kept A1 A2 l1 c1 c2 x.2 w1 HU.out.parts.2.2.2 HV.out.parts.2.2.2 HP.out.2.1 HP.out.2.2.1 (by have := HP.out.2.1; have := HL.out; omega)
  have e12 : l2 = l1 := HQ.out.2.1.trans HP.out.2.1.symm
  rw [e12]
  refine C.mono ?_
  rintro e w2 ⟨rfl, hb⟩
  replace B_W0 := Lib.hid (B_W0.out.stay hb)
  clear hb a0 a1 k0 k1 C e12
  go_wp2_with fail
  go_ret
  exact ⟨rfl, B_W0.out⟩
end Go.Proofs.YtonbhpadoplpkaaGreat
/- The package rosetteref00: short, times, less, long. -/
namespace Go.Proofs.YtonbhpadoplpkaaGreat
open Go.RowKit Go.Deep
theorem val32_drop_step (xs : List Nat) (k : Nat) (hk : k < xs.length) : val32 (xs.drop k) = xs.getD k 0 + W32 * val32 (xs.drop (k + 1)) := by
  rw [List.drop_eq_getElem_cons hk]
  show xs[k] + W32 * _ = _
  simp [hk]
theorem val32_drop_set (os : List Nat) (k x : Nat) (hk : k < os.length) : val32 ((os.set k x).drop k) = x + W32 * val32 (os.drop (k + 1)) := by
  rw [drop_set_self os k x hk]
  rfl
theorem short_step {D b rest X x s q r : Nat} (h : D * b + rest = X) (hs : s = rest * W32 + x) (hq : s / b = q) (hr : s % b = r) : (q + W32 * D) * b + r = x + W32 * X := by
  have h1 := Nat.div_add_mod s b
  rw [hq, hr, hs, Nat.mul_comm b q] at h1
  rw [← h, Nat.add_mul, Nat.mul_add, Nat.mul_comm rest W32] at *
  rw [Nat.mul_assoc]
  omega
set_option maxHeartbeats 400000 in
set_option maxRecDepth 100000 in
theorem ref_short (A : Option Addr) (l c b : Nat) (xs : List Nat) (w : World) (h1 : Lim w w.heap.size A xs) (tx : Tiny xs) (e1 : l = xs.length) (hl : l ≤ 549755813888) (hb1 : 1 ≤ b) (hb2 : b < W32) :
    Calls Tryz.prog 98 #[.slice A l c, .int .u64 (b : Int)] w fun e w' => ∃ A' l' c' zs, e = .returned (.tuple #[.slice A' l' c', .int .u64 ((val32 xs % b : Nat) : Int)]) ∧ l' = zs.length ∧ l' ≤ c' ∧ zs.length ≤ l ∧ Lim w' w'.heap.size A' zs ∧ Tiny zs ∧ Norm zs ∧ val32 zs = val32 xs / b ∧ Below w.heap.size w w' := by
  have E1 := Lib.hid e1
  have TX := Lib.hid tx
  have HB := Lib.hid (And.intro hb1 hb2)
  have hlI : (l : Int) ≤ 549755813888 := by omega
  have hmk := make_limbs l (by omega)
  have hb0 : ¬ (b : Int) = 0 := by omega
  have hb0b : ((b : Int) == 0) = false := beq_eq_false_iff_ne.2 hb0
  have hb0n : ¬ b = 0 := by omega
  clear e1 tx hl hb1 hb2
  go_enter Tryz.func98, Tryz.ntmps98
  go_wp2_with fail
  go_loopw [7, 8] (fun t7 t8 wr => ∃ (k rest : Nat) (os : List Nat), k ≤ l ∧ t7 = .int .u64 (rest : Int) ∧ t8 = .int .i64 ((k : Int) - 1) ∧ rest < b ∧ os.length = l ∧ Tiny os ∧ Row wr w.heap.size os ∧ Below w.heap.size w wr ∧ val32 (os.drop k) * b + rest = val32 (xs.drop k)) (fun _ t8 _ => (intOf t8 + 1).toNat)
  case atStart =>
    exact ⟨l, 0, List.replicate l 0, Nat.le_refl _, rfl, rfl, by have := HB.out; omega, by simp, Tiny.zeros l, Row.made _ _, (Below.refl _ _).alloc (Nat.le_refl _) _, by
      rw [List.drop_of_length_le (by simp), List.drop_of_length_le (by rw [← E1.out]; exact Nat.le_refl _)]; simp [val32]⟩
  case round =>
    obtain ⟨k, rest, os, hk, rfl, rfl, hr, ho, hto, hrow, hbel, hval⟩ := hrel
    have HO := Lib.hid ho
    have HTO := Lib.hid hto
    have HV := Lib.hid hval
    have HR := Lib.hid hr
    have HK := Lib.hid hk
    clear ho hto hval hr hk
    rcases k with _ | k
    · have hlim := hrow.lim (B := wr.heap.size) hrow.lt
      have HVV := Lib.hid HV.out
      have HTR := Lib.hid (length_trimL_le os)
      have HMO := Lib.hid HO.out.symm
      have HDM : Hid (val32 os = val32 xs / b ∧ rest = val32 xs % b) := Lib.hid (by
        have h := HV.out
        rw [List.drop_zero, List.drop_zero] at h
        have hr := HR.out
        have hbp := HB.out.1
        rw [← h, Nat.mul_comm]
        rw [Nat.mul_add_div (by omega), Nat.mul_add_mod, Nat.div_eq_of_lt hr, Nat.mod_eq_of_lt hr]
        exact ⟨by omega, rfl⟩)
      go_wp2_with fail
      refine (ref_low _ l l os wr hlim HMO.out (Nat.le_refl _) (by omega)).mono ?_
      rintro e w2 ⟨rfl, rfl⟩
      go_wp2_with fail
      go_ret2
      have h5 := hlim.take (trimL os).length
      rw [← trimL_prefix] at h5
      refine ⟨some ⟨w.heap.size, 0, none⟩, (trimL os).length, l, trimL os, ?_, rfl, by have := HTR.out; have := HO.out; omega, by have := HTR.out; have := HO.out; omega, h5, HTO.out.trim, norm_trimL _, by rw [val32_trim]; exact HDM.out.1, hbel⟩
      rw [← HDM.out.2]
      rfl
    · have e1 : ((k + 1 : Nat) : Int) - 1 = (k : Int) := by omega
      have hk0 : (0 : Int) ≤ (k : Int) := by omega
      have hklI : (k : Int) < (l : Int) := by have := HK.out; omega
      rw [e1]
      have HKX := Lib.hid (show k < xs.length by rw [← E1.out]; exact HK.out)
      have HKO := Lib.hid (show k < os.length by rw [HO.out]; exact HK.out)
      obtain ⟨ax, rfl, _, hcx⟩ := (h1.below hbel).at_ HKX.out
      obtain ⟨x, hx⟩ : ∃ x, xs.getD k 0 = x := ⟨_, rfl⟩
      have HXT := Lib.hid (show x < W32 by rw [← hx]; exact TX.out.getD k)
      have HX := Lib.hid hx
      rw [hx] at hcx
      have hco := hrow.cell (k := k) HKO.out
      have hfo := hrow.free k
      obtain ⟨o, hoo⟩ : ∃ o, os.getD k 0 = o := ⟨_, rfl⟩
      rw [hoo] at hco
      obtain ⟨p, hp⟩ : ∃ p, rest * 4294967296 = p := ⟨_, rfl⟩
      obtain ⟨s, hs⟩ : ∃ s, p + x = s := ⟨_, rfl⟩
      obtain ⟨sd, hsd⟩ : ∃ sd, s / b = sd := ⟨_, rfl⟩
      obtain ⟨sm, hsm⟩ : ∃ sm, s % b = sm := ⟨_, rfl⟩
      have HSB := Lib.hid (show s < b * W32 by
        have h1 := HR.out
        have h2 := HXT.out
        rw [W32_eq] at h2 ⊢
        omega)
      have HSW := Lib.hid (show s < W64 ∧ p < W64 by
        have h1 := HSB.out
        have h2 := Nat.mul_lt_mul_of_lt_of_le HB.out.2 (Nat.le_refl W32) W32_pos
        rw [← W64_sq] at h2
        omega)
      have hpI : (rest : Int) * 4294967296 = (p : Int) := by omega
      have hsI : (p : Int) + (x : Int) = (s : Int) := by omega
      have hsdI : (s : Int) / (b : Int) = (sd : Int) := by rw [← hsd]; simp
      have hsmI : (s : Int) % (b : Int) = (sm : Int) := by rw [← hsm]; simp
      have wp : IntKind.u64.wrap (p : Int) = (p : Int) := wrap64_in HSW.out.2
      have ws : IntKind.u64.wrap (s : Int) = (s : Int) := wrap64_in HSW.out.1
      have HSM := Lib.hid (show sd < W32 ∧ sm < b from ⟨by rw [← hsd]; exact Nat.div_lt_of_lt_mul HSB.out, by rw [← hsm]; exact Nat.mod_lt _ HB.out.1⟩)
      have wd : IntKind.u64.wrap (sd : Int) = (sd : Int) := wrap64_in (Nat.lt_trans HSM.out.1 W32_lt)
      have wm : IntKind.u64.wrap (sm : Int) = (sm : Int) := wrap64_in (Nat.lt_trans HSM.out.2 (Nat.lt_trans HB.out.2 W32_lt))
      have HST := Lib.hid (show val32 ((os.set k sd).drop k) * b + sm = val32 (xs.drop k) by
        rw [val32_drop_set os k sd HKO.out, val32_drop_step xs k HKX.out, HX.out]
        exact short_step (s := s) HV.out (by rw [W32_eq]; omega) hsd hsm)
      have HLEN := Lib.hid (show (os.set k sd).length = l by rw [List.length_set, HO.out])
      clear hx hoo hp hs hsd hsm
      have HS2 := Lib.hid hsmI
      clear hsmI
      go_wp2_with fail
      exact ⟨⟨k, sm, os.set k sd, by have := HK.out; omega, by rw [HS2.out], rfl, HSM.out.2, HLEN.out, HTO.out.set _ _ HSM.out.1, hrow.set HKO.out (Nat.lt_trans HSM.out.1 W32_lt), hbel.setCell (Nat.le_refl _) _, HST.out⟩, by simp [intOf]⟩
theorem tim_step {P V b cy A x s : Nat} (h : V + cy * P = A * b) (hs : s = x * b + cy) : V + P * (s % W32) + s / W32 * (P * W32) = (A + P * x) * b := by
  have h1 := Nat.div_add_mod s W32
  rw [Nat.add_mul, ← h]
  have e1 : P * x * b = P * (x * b) := Nat.mul_assoc _ _ _
  have e2 : s / W32 * (P * W32) = P * (W32 * (s / W32)) := by ac_rfl
  have e3 : cy * P = P * cy := Nat.mul_comm _ _
  rw [e1, e2, e3]
  rw [Nat.add_assoc, Nat.add_assoc, ← Nat.mul_add, ← Nat.mul_add]
  congr 2
  omega
theorem times_bound {x b cy : Nat} (hx : x < W32) (hb : b < W32) (hc : cy < W32) : x * b + cy < W64 := by
  have h := step_bound (o := 0) hx hb W32_pos hc
  omega
set_option maxHeartbeats 400000 in
set_option maxRecDepth 100000 in
theorem ref_times (A : Option Addr) (l c b m : Nat) (xs : List Nat) (w : World) {B : Nat} (h1 : Lim w B A xs) (hB : B ≤ w.heap.size) (tx : Tiny xs) (e1 : l = xs.length) (hb2 : b < W32) (hm : m ≤ 549755813888) :
    Calls Tryz.prog 136 #[.slice A l c, .int .u64 (b : Int), .int .i64 (m : Int)] w fun e w' => ∃ zs cy, e = .returned (.slice (some ⟨w.heap.size, 0, none⟩) m m) ∧ zs.length = m ∧ Row w' w.heap.size zs ∧ Tiny zs ∧ val32 zs + cy * W32 ^ m = val32 (xs.take m) * b ∧ Below w.heap.size w w' := by
  have E1 := Lib.hid e1
  have TX := Lib.hid tx
  have HB := Lib.hid hb2
  have hmI : (m : Int) ≤ 549755813888 := by omega
  have hmk := make_limbs m (by omega)
  clear e1 tx hm hb2
  go_enter Tryz.func136, Tryz.ntmps136
  go_wp2_with fail
  go_loopw [8, 9] (fun t8 t9 wr => ∃ (k cy : Nat) (os : List Nat), k ≤ m ∧ t8 = .int .u64 (cy : Int) ∧ t9 = .int .i64 (k : Int) ∧ cy < W32 ∧ os.length = m ∧ Tiny os ∧ Row wr w.heap.size os ∧ Below w.heap.size w wr ∧ val32 (os.take k) + cy * W32 ^ k = val32 (xs.take k) * b) (fun _ t9 _ => m - (intOf t9).toNat)
  case atStart =>
    exact ⟨0, 0, List.replicate m 0, by omega, rfl, rfl, W32_pos, by simp, Tiny.zeros m, Row.made _ _, (Below.refl _ _).alloc (Nat.le_refl _) _, by simp [val32]⟩
  case round =>
    obtain ⟨k, cy, os, hk, rfl, rfl, hcy, ho, hto, hrow, hbel, hval⟩ := hrel
    have HO := Lib.hid ho
    have HTO := Lib.hid hto
    have HV := Lib.hid hval
    have HCY := Lib.hid hcy
    clear ho hto hval hcy
    by_cases hkm : k < m
    · have hkI : (k : Int) < (m : Int) := by omega
      have HKO := Lib.hid (show k < os.length by rw [HO.out]; exact hkm)
      have HKM := Lib.hid hkm
      clear hk hkm
      go_wp2_with fail
      refine (ref_digit A l c k xs wr (h1.below (hbel.mono hB)) E1.out).mono ?_
      rintro e w2 ⟨rfl, rfl⟩
      obtain ⟨x, hx⟩ : ∃ x, xs.getD k 0 = x := ⟨_, rfl⟩
      have HXT := Lib.hid (show x < W32 by rw [← hx]; exact TX.out.getD k)
      have HX := Lib.hid hx
      rw [hx]
      have hco := hrow.cell (k := k) HKO.out
      have hfo := hrow.free k
      obtain ⟨o, hoo⟩ : ∃ o, os.getD k 0 = o := ⟨_, rfl⟩
      rw [hoo] at hco
      obtain ⟨p, hp⟩ : ∃ p, x * b = p := ⟨_, rfl⟩
      obtain ⟨s, hs⟩ : ∃ s, p + cy = s := ⟨_, rfl⟩
      obtain ⟨sm, hsm⟩ : ∃ sm, s % 4294967296 = sm := ⟨_, rfl⟩
      obtain ⟨sd, hsd⟩ : ∃ sd, s / 4294967296 = sd := ⟨_, rfl⟩
      have HSB := Lib.hid (show s < W64 by rw [← hs, ← hp]; exact times_bound HXT.out HB.out HCY.out)
      have hpI : (x : Int) * (b : Int) = (p : Int) := by rw [← hp]; simp
      have hsI : (p : Int) + (cy : Int) = (s : Int) := by omega
      have hsmI : (s : Int) % 4294967296 = (sm : Int) := by omega
      have hsdI : (s : Int) / 4294967296 = (sd : Int) := by omega
      have wp : IntKind.u64.wrap (p : Int) = (p : Int) := wrap64_in (by have := HSB.out; omega)
      have ws : IntKind.u64.wrap (s : Int) = (s : Int) := wrap64_in HSB.out
      have wm : IntKind.u64.wrap (sm : Int) = (sm : Int) := wrap64_in (by have := HSB.out; omega)
      have wd : IntKind.u64.wrap (sd : Int) = (sd : Int) := wrap64_in (by have := HSB.out; omega)
      have HSM := Lib.hid (show sm < W32 ∧ sd < W32 from ⟨by rw [← hsm, ← W32_eq]; exact Nat.mod_lt _ W32_pos, by rw [← hsd, ← W32_eq]; exact div32_lt HSB.out⟩)
      have HST := Lib.hid (show val32 ((os.set k sm).take (k + 1)) + sd * W32 ^ (k + 1) = val32 (xs.take (k + 1)) * b by
        rw [val32_take_step xs k, HX.out, take_set_succ os k sm HKO.out, val32_snoc, List.length_take, Nat.min_eq_left (Nat.le_of_lt HKO.out), Nat.pow_succ]
        have h := tim_step (s := s) HV.out (show s = x * b + cy by omega)
        rwa [W32_eq, hsm, hsd, ← W32_eq] at h)
      have HLEN := Lib.hid (show (os.set k sm).length = m by rw [List.length_set, HO.out])
      clear hx hoo hp hs hsm hsd
      go_wp2_with fail
      exact ⟨⟨k + 1, sd, os.set k sm, HKM.out, rfl, by go_num, HSM.out.2, HLEN.out, HTO.out.set _ _ HSM.out.1, hrow.set HKO.out (Nat.lt_trans HSM.out.1 W32_lt), hbel.setCell (Nat.le_refl _) _, HST.out⟩, by have := HKM.out; simp [intOf]; omega⟩
    · obtain rfl : m = k := by omega
      have HVF := Lib.hid (show val32 os + cy * W32 ^ m = val32 (xs.take m) * b by
        have h := HV.out
        rwa [List.take_of_length_le (by rw [HO.out]; exact Nat.le_refl _)] at h)
      clear hkm
      go_wp2_with fail
      go_ret
      exact ⟨os, cy, rfl, HO.out, hrow, HTO.out, HVF.out, hbel⟩
end Go.Proofs.YtonbhpadoplpkaaGreat
/- The package rosetteref00: less. -/
namespace Go.Proofs.YtonbhpadoplpkaaGreat
open Go.RowKit Go.Deep
theorem val32_split (xs : List Nat) (k : Nat) (hk : k ≤ xs.length) : val32 xs = val32 (xs.take k) + W32 ^ k * val32 (xs.drop k) := by
  have h := val32_append (xs.take k) (xs.drop k)
  rwa [List.take_append_drop, List.length_take, Nat.min_eq_left hk] at h
theorem val32_lt_top {xs ys : List Nat} (h1 : Tiny xs) (hl : xs.length = ys.length) {k : Nat} (hk : k < xs.length) (hd : xs.drop (k + 1) = ys.drop (k + 1)) (hlt : xs.getD k 0 < ys.getD k 0) : val32 xs < val32 ys := by
  rw [val32_split xs k (by omega), val32_split ys k (by omega), val32_drop_step xs k hk, val32_drop_step ys k (by omega), hd]
  have h2 : val32 (xs.take k) < W32 ^ k := by
    have h := val32_lt (h1.take k)
    rwa [List.length_take, Nat.min_eq_left (by omega)] at h
  generalize val32 (ys.drop (k + 1)) = D
  have h3 : W32 ^ k * (xs.getD k 0 + W32 * D) + W32 ^ k ≤ W32 ^ k * (ys.getD k 0 + W32 * D) := step_lt (W32 ^ k) (W32 * D) hlt
  omega
theorem win_get (us : List Nat) (p m j : Nat) (hj : j < m) : ((us.drop p).take m).getD j 0 = us.getD (p + j) 0 := by
  simp [List.getD_eq_getElem?_getD, hj, List.getElem?_drop]
/-- What is left of a window of digits. -/
structure Taken (us us' : List Nat) (p m P : Nat) : Prop where
  len : us'.length = us.length
  tiny : Tiny us'
  low : us'.take p = us.take p
  high : us'.drop (p + m) = us.drop (p + m)
  is : val32 ((us'.drop p).take m) + P = val32 ((us.drop p).take m)
set_option maxHeartbeats 1000000 in
set_option maxRecDepth 100000 in
theorem ref_less (g L c p n q : Nat) (us : List Nat) (A2 : Option Addr) (c2 : Nat) (ys : List Nat) (w : World) (hrow : Row w g us) (hL : L = us.length) (hp : p + (n + 1) ≤ us.length) (tu : Tiny us) (h2 : Lim w w.heap.size A2 ys) (ty : Tiny ys) (e2 : n = ys.length) (hq : q < W32) (hl : us.length ≤ 549755813888) :
    Calls Tryz.prog 137 #[.slice (some ⟨g, 0, none⟩) L c, .int .i64 (p : Int), .slice A2 n c2, .int .u64 (q : Int)] w fun e w' => ∃ us', e = .returned (.bool (decide (val32 ys * q ≤ val32 ((us.drop p).take (n + 1))))) ∧ Row w' g us' ∧ w.grownBy w' (some g) ∧ (val32 ys * q ≤ val32 ((us.drop p).take (n + 1)) → Taken us us' p (n + 1) (val32 ys * q)) ∧ (¬ val32 ys * q ≤ val32 ((us.drop p).take (n + 1)) → us' = us) := by
  have HR0 := Lib.hid hrow
  have HLL := Lib.hid hL
  have HP := Lib.hid hp
  have TU := Lib.hid tu
  have TY := Lib.hid ty
  have E2 := Lib.hid e2
  have HQ := Lib.hid hq
  have HL := Lib.hid hl
  have hnI : (n : Int) + 1 ≤ 549755813888 := by omega
  have hpI : (p : Int) + (n : Int) + 1 ≤ 549755813888 := by omega
  have hLI : (p : Int) + (n : Int) + 1 ≤ (L : Int) := by omega
  obtain ⟨ws, hws⟩ : ∃ ws, (us.drop p).take (n + 1) = ws := ⟨_, rfl⟩
  have HWS := Lib.hid hws
  have HWL := Lib.hid (show ws.length = n + 1 by rw [← hws, List.length_take, List.length_drop]; omega)
  have HWG : Hid (∀ j, j < n + 1 → ws.getD j 0 = us.getD (p + j) 0) := Lib.hid (fun j hj => by rw [← hws]; exact win_get us p (n + 1) j hj)
  have HWT := Lib.hid (show Tiny ws by rw [← hws]; exact Tiny.take (fun y hy => tu y (List.mem_of_mem_drop hy)) _)
  obtain ⟨V, hV⟩ : ∃ V, val32 ys * q = V := ⟨_, rfl⟩
  have HVV := Lib.hid hV
  rw [hws, hV]
  clear hrow hL hp tu ty e2 hq hl hws hV
  go_enter Tryz.func137, Tryz.ntmps137
  go_wp2_with fail
  have kt := ref_times A2 n c2 q (n + 1) ys w h2 (Nat.le_refl _) TY.out E2.out HQ.out (by omega)
  rw [show ((n + 1 : Nat) : Int) = (n : Int) + 1 by omega] at kt
  refine kt.mono ?_
  clear kt
  rintro e w1 ⟨ps, cy, rfl, hpl, hprow, hpt, hpv, hb1⟩
  have HPV := Lib.hid (show val32 ps = V by
    rw [← HVV.out]
    rw [List.take_of_length_le (by have := E2.out; omega)] at hpv
    have h1 : val32 ys * q < W32 ^ (n + 1) := by
      have h := val32_lt TY.out
      rw [← E2.out] at h
      rw [Nat.pow_succ]
      exact Nat.mul_lt_mul'' h HQ.out
    rcases Nat.eq_zero_or_pos cy with h0 | h0
    · subst h0; omega
    · have h3 := Nat.le_mul_of_pos_left (W32 ^ (n + 1)) h0
      omega)
  have HPL := Lib.hid hpl
  have HPT := Lib.hid hpt
  obtain ⟨gp, hgp⟩ : ∃ gp, w.heap.size = gp := ⟨_, rfl⟩
  have HGP := Lib.hid (show gp ≠ g by have := HR0.out.lt; omega)
  have hrow1 := HR0.out.call hb1
  rw [hgp] at hprow ⊢
  have HB1 := Lib.hid hb1
  have HG1 := Lib.hid hprow.lt
  clear hpv hpl hpt hgp hb1 h2
  go_upto_block 0 with (fail)
  go_cut [] (fun wx => Row wx g us ∧ Row wx gp ps ∧ Below w1.heap.size w1 wx ∧ V ≤ val32 ws)
  case first =>
    go_wp2_with fail
    go_loopw [10] (fun t10 wr => ∃ k : Nat, k ≤ n + 1 ∧ t10 = .int .i64 ((k : Int) - 1) ∧ Row wr g us ∧ Row wr gp ps ∧ Below w1.heap.size w1 wr ∧ ps.drop k = ws.drop k) (fun t10 _ => (intOf t10 + 1).toNat)
    case atStart => exact ⟨n + 1, Nat.le_refl _, by go_num, hrow1, hprow, Below.refl _ _, by rw [List.drop_of_length_le (by rw [HPL.out]; exact Nat.le_refl _), List.drop_of_length_le (by rw [HWL.out]; exact Nat.le_refl _)]⟩
    case round =>
      clear hrow1 hprow
      obtain ⟨k, hk, rfl, hru, hrp, hbe, hsame⟩ := hrel
      have HK := Lib.hid hk
      have HSM := Lib.hid hsame
      have HBE := Lib.hid hbe
      clear hk hsame hbe
      rcases k with _ | k
      · have HEQ : Hid (V ≤ val32 ws) := Lib.hid (by
          have h := HSM.out
          rw [List.drop_zero, List.drop_zero] at h
          rw [← HPV.out, h]
          exact Nat.le_refl _)
        go_wp2_with fail
        go_meet
        exact ⟨hru, hrp, HBE.out, HEQ.out⟩
      · have e1 : ((k + 1 : Nat) : Int) - 1 = (k : Int) := by omega
        have hk0 : (0 : Int) ≤ (k : Int) := by omega
        have hkn : (k : Int) ≤ (n : Int) := by have := HK.out; omega
        rw [e1]
        obtain ⟨d, hd⟩ : ∃ d, p + k = d := ⟨_, rfl⟩
        have hdI : (p : Int) + (k : Int) = (d : Int) := by omega
        have hdL : (d : Int) < (L : Int) := by omega
        have HKP := Lib.hid (show k < ps.length by rw [HPL.out]; have := HK.out; omega)
        have hcp := hrp.cell (k := k) HKP.out
        have hcu := hru.cell (k := d) (by have := HP.out; have := HK.out; omega)
        obtain ⟨x, hx⟩ : ∃ x, ps.getD k 0 = x := ⟨_, rfl⟩
        obtain ⟨y, hy⟩ : ∃ y, us.getD d 0 = y := ⟨_, rfl⟩
        have HX := Lib.hid hx
        have HY : Hid (ws.getD k 0 = y) := Lib.hid (by rw [HWG.out k (by have := HK.out; omega), hd, hy])
        rw [hx] at hcp
        rw [hy] at hcu
        clear hx hy hd
        by_cases hlt : x < y
        · have hltI : (x : Int) < (y : Int) := by omega
          have HLT : Hid (V ≤ val32 ws) := Lib.hid (by
            rw [← HPV.out]
            exact Nat.le_of_lt (val32_lt_top HPT.out (by rw [HPL.out, HWL.out]) HKP.out HSM.out (by rw [HX.out, HY.out]; exact hlt)))
          clear hlt
          go_wp2_with fail
          go_quiet (fail)
          go_wp2_with fail
          go_meet
          exact ⟨hru.drewN _, hrp.drewN _, below_drewN HBE.out _, HLT.out⟩
        · have t1 : decide (x < y) = false := decide_eq_false hlt
          have HT1 := Lib.hid t1
          by_cases hgt : y < x
          · have t2 : decide (y < x) = true := decide_eq_true hgt
            have HGT : Hid (val32 ws < V) := Lib.hid (by
              rw [← HPV.out]
              exact val32_lt_top HWT.out (by rw [HPL.out, HWL.out]) (by rw [HWL.out, ← HPL.out]; exact HKP.out) HSM.out.symm (by rw [HX.out, HY.out]; exact hgt))
            clear hlt hgt
            go_wp2_with fail
            go_quiet (fail)
            have hru2 := hru.drewN nq
            have hrp2 := hrp.drewN nq
            have HBE2 := Lib.hid (below_drewN HBE.out nq)
            have hcp2 : (wr.drewN nq).cell? ⟨gp, k, none⟩ = some (.int .u64 (x : Int)) := hcp
            have hcu2 : (wr.drewN nq).cell? ⟨g, d, none⟩ = some (.int .u64 (y : Int)) := hcu
            generalize wr.drewN nq = wq at hru2 hrp2 HBE2 hcp2 hcu2 ⊢
            clear hcp hcu hru hrp HBE
            go_wp2_with fail
            go_quiet (fail)
            go_wp2_with fail
            go_ret
            exact ⟨us, by rw [decide_eq_false (show ¬ V ≤ val32 ws from by have := HGT.out; omega)]; rfl, hru2.drewN _, grownBy_of_below (HB1.out.trans ((below_drewN HBE2.out _).mono HB1.out.size)) _, fun h => absurd h (by have := HGT.out; omega), fun _ => rfl⟩
          · have t2 : decide (y < x) = false := decide_eq_false hgt
            have HEQ : Hid (ps.drop k = ws.drop k) := Lib.hid (by
              have h3 : ps.getD k 0 = ws.getD k 0 := by rw [HX.out, HY.out]; omega
              exact drop_same (by rw [HPL.out, HWL.out]) HKP.out HSM.out h3)
            clear hlt hgt
            go_wp2_with fail
            go_quiet (fail)
            have hru2 := hru.drewN nq
            have hrp2 := hrp.drewN nq
            have HBE2 := Lib.hid (below_drewN HBE.out nq)
            have hcp2 : (wr.drewN nq).cell? ⟨gp, k, none⟩ = some (.int .u64 (x : Int)) := hcp
            have hcu2 : (wr.drewN nq).cell? ⟨g, d, none⟩ = some (.int .u64 (y : Int)) := hcu
            generalize wr.drewN nq = wq at hru2 hrp2 HBE2 hcp2 hcu2 ⊢
            clear hcp hcu hru hrp HBE
            go_wp2_with fail
            go_quiet (fail)
            go_wp2_with fail
            exact ⟨⟨k, by have := HK.out; omega, rfl, hru2.drewN _, hrp2.drewN _, below_drewN HBE2.out _, HEQ.out⟩, by simp [intOf]⟩
  case rest =>
    obtain ⟨hru, hrp, hbe, hle⟩ := hcut
    have HLE := Lib.hid hle
    have HBC := Lib.hid (HB1.out.trans (hbe.mono HB1.out.size))
    have HGL := Lib.hid hru.lt
    have HBE := Lib.hid hbe
    clear hrow1 hprow hle hbe
    go_wp2_with fail
    go_loopw [11, 12] (fun t11 t12 wr => ∃ (i cr : Nat) (os : List Nat), i ≤ n + 1 ∧ t11 = .int .u64 (cr : Int) ∧ t12 = .int .i64 (i : Int) ∧ cr ≤ 1 ∧ os.length = us.length ∧ Tiny os ∧ Row wr g os ∧ Row wr gp ps ∧ wc.grownBy wr (some g) ∧ os.take p = us.take p ∧ os.drop (p + i) = us.drop (p + i) ∧ val32 ((os.drop p).take i) + val32 (ps.take i) = val32 (ws.take i) + cr * W32 ^ i) (fun _ t12 _ => n + 2 - (intOf t12).toNat)
    case atStart => exact ⟨0, 0, us, by omega, rfl, rfl, by omega, rfl, TU.out, hru, hrp, World.grownBy.refl _ _, rfl, rfl, by simp [val32]⟩
    case round =>
      clear hru hrp
      obtain ⟨i, cr, os, hi, rfl, rfl, hcr, ho, hto, hro, hrp, hgr, htk, hdr, hval⟩ := hrel
      have HI := Lib.hid hi
      have HCR := Lib.hid hcr
      have HO := Lib.hid ho
      have HTO := Lib.hid hto
      have HGR := Lib.hid hgr
      have HTK := Lib.hid htk
      have HDR := Lib.hid hdr
      have HV := Lib.hid hval
      clear hi hcr ho hto hgr htk hdr hval
      by_cases hin : i ≤ n
      · have hinI : (i : Int) ≤ (n : Int) := by omega
        have HIN := Lib.hid hin
        obtain ⟨d, hd⟩ : ∃ d, p + i = d := ⟨_, rfl⟩
        have hdI : (p : Int) + (i : Int) = (d : Int) := by omega
        have hdL : (d : Int) < (L : Int) := by omega
        have HD := Lib.hid hd
        have HDO := Lib.hid (show d < os.length by rw [HO.out]; have := HP.out; omega)
        have HIP := Lib.hid (show i < ps.length by rw [HPL.out]; omega)
        have hcp := hrp.cell (k := i) HIP.out
        have hcu := hro.cell (k := d) HDO.out
        obtain ⟨y, hy⟩ : ∃ y, ps.getD i 0 = y := ⟨_, rfl⟩
        obtain ⟨x, hx⟩ : ∃ x, os.getD d 0 = x := ⟨_, rfl⟩
        rw [hy] at hcp
        rw [hx] at hcu
        have HY := Lib.hid hy
        have HX : Hid (ws.getD i 0 = x) := Lib.hid (by
          rw [HWG.out i (by omega), hd, ← hx]
          have h := HDR.out
          rw [hd] at h
          exact (getD_of_drop h).symm)
        have HYT := Lib.hid (show y < W32 by rw [← hy]; exact HPT.out.getD i)
        have HXT := Lib.hid (show x < W32 by rw [← hx]; exact HTO.out.getD d)
        obtain ⟨s1, hs1⟩ : ∃ s1, 4294967296 + x = s1 := ⟨_, rfl⟩
        obtain ⟨s2, hs2⟩ : ∃ s2, s1 - y = s2 := ⟨_, rfl⟩
        obtain ⟨s, hs⟩ : ∃ s, s2 - cr = s := ⟨_, rfl⟩
        obtain ⟨sm, hsm⟩ : ∃ sm, s % 4294967296 = sm := ⟨_, rfl⟩
        obtain ⟨sd, hsd⟩ : ∃ sd, 1 - s / 4294967296 = sd := ⟨_, rfl⟩
        have hb2 := HYT.out
        have hb3 := HXT.out
        have hb4 := HCR.out
        rw [W32_eq] at hb2 hb3
        have HBS := Lib.hid (show s < W64 ∧ s2 < W64 ∧ s1 < W64 by rw [W64_eq]; omega)
        have hs1I : (4294967296 : Int) + (x : Int) = (s1 : Int) := by omega
        have hs2I : (s1 : Int) - (y : Int) = (s2 : Int) := by omega
        have hsI : (s2 : Int) - (cr : Int) = (s : Int) := by omega
        have hsmI : (s : Int) % 4294967296 = (sm : Int) := by omega
        have hsdI : (1 : Int) - (s : Int) / 4294967296 = (sd : Int) := by omega
        have w1' : IntKind.u64.wrap (s1 : Int) = (s1 : Int) := wrap64_in HBS.out.2.2
        have w2' : IntKind.u64.wrap (s2 : Int) = (s2 : Int) := wrap64_in HBS.out.2.1
        have w3' : IntKind.u64.wrap (s : Int) = (s : Int) := wrap64_in HBS.out.1
        have HST := Lib.hid (sub_step (s := s) (t := sd) (x := x) (y := y) HV.out (by rw [W32_eq]; omega) HCR.out HXT.out (by rw [W32_eq]; omega))
        have w4' : IntKind.u64.wrap (sm : Int) = (sm : Int) := wrap64_in (by rw [W64_eq]; omega)
        have w5' : IntKind.u64.wrap (sd : Int) = (sd : Int) := wrap64_in (by rw [W64_eq]; have := HST.out.2.1; omega)
        have HSM := Lib.hid (show sm < W32 by rw [W32_eq]; omega)
        have HSE := Lib.hid (show sm = s % W32 by rw [W32_eq]; omega)
        clear hin hd hy hx hs1 hs2 hs hsm hsd hb2 hb3 hb4
        go_wp2_with fail
        go_quiet (fail)
        have hro2 := hro.drewN nq
        have hrp2 := hrp.drewN nq
        have HGR2 := Lib.hid (grownBy_trans HGR.out (grownBy_of_below (below_drewN (Below.refl _ wr) nq) _))
        have hcu2 : (wr.drewN nq).cell? ⟨g, d, none⟩ = some (.int .u64 (x : Int)) := hcu
        generalize wr.drewN nq = wq at hro2 hrp2 HGR2 hcu2 ⊢
        have hfo := hro2.free d
        have HFIN : Hid ((os.set d sm).take p = us.take p ∧ (os.set d sm).drop (p + (i + 1)) = us.drop (p + (i + 1)) ∧ val32 (((os.set d sm).drop p).take (i + 1)) + val32 (ps.take (i + 1)) = val32 (ws.take (i + 1)) + sd * W32 ^ (i + 1)) := Lib.hid (by
          have hd := HD.out
          refine ⟨?_, ?_, ?_⟩
          · rw [← HTK.out, List.take_set_of_le (by omega)]
          · have h := drop_more HDR.out 1
            rw [Nat.add_assoc] at h
            rw [List.drop_set_of_lt (by omega)]
            exact h
          · rw [← hd, drop_set_add, take_set_succ _ i sm (by rw [List.length_drop, HO.out]; have := HP.out; have := HIN.out; omega), val32_snoc, val32_take_step ps i, val32_take_step ws i, HY.out, HX.out, List.length_take, Nat.min_eq_left (by rw [List.length_drop, HO.out]; have := HP.out; have := HIN.out; omega), Nat.pow_succ, HSE.out]
            have h := HST.out.1
            omega)
        clear hcu hcp hro hrp HGR
        go_wp2_with fail
        exact ⟨⟨i + 1, sd, os.set d sm, by have := HIN.out; omega, rfl, by go_num, HST.out.2.1, by rw [List.length_set, HO.out], HTO.out.set _ _ HSM.out, hro2.set HDO.out (Nat.lt_trans HSM.out W32_lt), hrp2.far HGP.out _, grownBy_trans HGR2.out (only_set _ _ _), HFIN.out.1, HFIN.out.2.1, HFIN.out.2.2⟩, by simp [intOf]; have := HIN.out; omega⟩
      · have hinI : ¬ (i : Int) ≤ (n : Int) := by omega
        have HIE : Hid (i = n + 1) := Lib.hid (by have := HI.out; omega)
        clear hin
        go_wp2_with fail
        go_ret
        have hie := HIE.out
        subst hie
        refine ⟨by rw [decide_eq_true HLE.out]; rfl, os, hro, grownBy_trans (grownBy_of_below HBC.out _) HGR.out, fun _ => ⟨HO.out, HTO.out, HTK.out, HDR.out, ?_⟩, fun h => absurd HLE.out (by omega)⟩
        have hv := HV.out
        rw [List.take_of_length_le (l := ps) (by rw [HPL.out]; exact Nat.le_refl _), List.take_of_length_le (l := ws) (by rw [HWL.out]; exact Nat.le_refl _), HPV.out] at hv
        have ho : val32 ((os.drop p).take (n + 1)) < W32 ^ (n + 1) := by
          have h := val32_lt ((show Tiny (os.drop p) from fun y hy => HTO.out y (List.mem_of_mem_drop hy)).take (n + 1))
          rwa [List.length_take, List.length_drop, Nat.min_eq_left (by rw [HO.out]; have := HP.out; omega)] at h
        have h := sub_end hv HCR.out ho HLE.out
        rw [HWS.out, h]
        have := HLE.out
        omega
end Go.Proofs.YtonbhpadoplpkaaGreat
/- The package rosetteref00: long. -/
namespace Go.Proofs.YtonbhpadoplpkaaGreat
open Go.RowKit Go.Deep
theorem val32_nil : val32 [] = 0 := rfl
theorem alg32 (W : Nat) {M t win rest P D V q r : Nat} (hrest : rest = 0) (hM : M = t + P * (win + rest) + D * (P * W) * V) (hw : win = q * V + r) : M = t + P * (r + 0) + (q + W * D) * P * V := by
  subst hrest
  rw [hM, hw]; grind
theorem over_win32 {us : List Nat} (hs : Tiny us) {p lb V : Nat} (hp : p + (lb + 1) ≤ us.length) (hVl : V < W32 ^ lb) (hlt : val32 (us.drop (p + 1)) < V) :
    val32 ((us.drop p).take (lb + 1)) < V * W32 ∧ val32 (us.drop (p + (lb + 1))) = 0 := by
  have h1 := val32_drop_step us p (by omega)
  have h2 : us.getD p 0 < W32 := hs.getD p
  have h3 := val32_split (us.drop p) (lb + 1) (by rw [List.length_drop]; omega)
  rw [List.drop_drop] at h3
  have h4 := val32_split (us.drop (p + 1)) lb (by rw [List.length_drop]; omega)
  rw [List.drop_drop] at h4
  have h5 : W32 * val32 (us.drop (p + 1)) + W32 ≤ W32 * V := by
    have := Nat.mul_le_mul_left W32 (show val32 (us.drop (p + 1)) + 1 ≤ V from hlt)
    rwa [Nat.mul_add, Nat.mul_one] at this
  rw [Nat.mul_comm V]
  refine ⟨by omega, ?_⟩
  rw [show p + 1 + lb = p + (lb + 1) by omega] at h4
  rcases Nat.eq_zero_or_pos (val32 (us.drop (p + (lb + 1)))) with h6 | h6
  · exact h6
  · have := Nat.mul_le_mul_left (W32 ^ lb) h6
    omega
theorem over_step32 {us us' os : List Nat} (hs : Tiny us) {p lb V M q : Nat} (hlen : us'.length = us.length) (hp : p + (lb + 1) ≤ us.length) (hV0 : 0 < V) (hVl : V < W32 ^ lb) (hlt : val32 (us.drop (p + 1)) < V)
    (hM : M = val32 us + val32 (os.drop (p + 1)) * W32 ^ (p + 1) * V) (hq : q = val32 ((us.drop p).take (lb + 1)) / V) (htk : us'.take p = us.take p) (hdr : us'.drop (p + (lb + 1)) = us.drop (p + (lb + 1)))
    (hr : val32 ((us'.drop p).take (lb + 1)) = val32 ((us.drop p).take (lb + 1)) % V) (hpo : p < os.length) :
    val32 (us'.drop p) < V ∧ M = val32 us' + val32 ((os.set p q).drop p) * W32 ^ p * V := by
  obtain ⟨_, h0⟩ := over_win32 hs hp hVl hlt
  have e1 := val32_split us p (by omega)
  have e2 := val32_split (us.drop p) (lb + 1) (by rw [List.length_drop]; omega)
  rw [List.drop_drop, h0] at e2
  have e3 := val32_split us' p (by omega)
  have e4 := val32_split (us'.drop p) (lb + 1) (by rw [List.length_drop]; omega)
  rw [List.drop_drop, hdr, h0, hr] at e4
  have h5 := Nat.div_add_mod (val32 ((us.drop p).take (lb + 1))) V
  rw [← hq] at h5
  have h6 := Nat.mod_lt (val32 ((us.drop p).take (lb + 1))) hV0
  rw [Nat.mul_zero, Nat.add_zero] at e4
  refine ⟨by rw [e4]; exact h6, ?_⟩
  rw [e3, e4, htk, val32_drop_set os p q hpo]
  rw [e1, e2, Nat.pow_succ] at hM
  have h7 := alg32 W32 (Nat.mul_zero (W32 ^ (lb + 1))) hM (q := q) (r := val32 ((us.drop p).take (lb + 1)) % V) (by rw [Nat.mul_comm]; exact h5.symm)
  rwa [Nat.add_zero] at h7
theorem guess_ge32 {win vs : List Nat} (hw : Tiny win) {n : Nat} (hv : vs.length = n + 1) (hwl : win.length = n + 2) :
    (val32 win / val32 vs) * vs.getD n 0 ≤ win.getD n 0 + W32 * win.getD (n + 1) 0 := by
  have h1 := Nat.div_mul_le_self (val32 win) (val32 vs)
  generalize val32 win / val32 vs = Q at *
  have e1 : val32 win = val32 (win.take n) + W32 ^ n * (win.getD n 0 + W32 * win.getD (n + 1) 0) := by
    have h3 := val32_split win n (by omega)
    have h4 := val32_drop_step win n (by omega)
    have h5 := val32_drop_step win (n + 1) (by omega)
    rw [List.drop_of_length_le (i := n + 1 + 1) (by omega), val32_nil, Nat.mul_zero, Nat.add_zero] at h5
    rw [h3, h4, h5, Nat.add_zero]
  have e2 : val32 vs = val32 (vs.take n) + W32 ^ n * vs.getD n 0 := by
    have h3 := val32_take_step vs n
    rwa [List.take_of_length_le (by omega)] at h3
  have h6 := val32_lt (hw.take n)
  rw [List.length_take, Nat.min_eq_left (by omega)] at h6
  rw [e1, e2] at h1
  generalize win.getD n 0 + W32 * win.getD (n + 1) 0 = t at *
  generalize vs.getD n 0 = v at *
  generalize val32 (vs.take n) = a at *
  generalize val32 (win.take n) = b at *
  generalize W32 ^ n = P at *
  rcases Nat.lt_or_ge t (Q * v) with h | h
  · exfalso
    have h7 := Nat.mul_le_mul_left P (show t + 1 ≤ Q * v from h)
    have h8 : Q * (a + P * v) = Q * a + P * (Q * v) := by grind
    rw [Nat.mul_add, Nat.mul_one] at h7
    have : 0 ≤ Q * a := Nat.zero_le _
    omega
  · exact h
theorem below_of_grown {w a b : World} {g : Nat} (h : Below w.heap.size w a) (k : a.grownBy b (some g)) (hg : w.heap.size ≤ g) : Below w.heap.size w b :=
  ⟨k.os.trans h.os, k.tape.trans h.tape, k.output.trans h.output, Nat.le_trans h.size k.size, fun i hi => by
    rw [k.block i (Nat.lt_of_lt_of_le hi h.size) (fun e => by have := Option.some.inj e; omega)]
    exact h.block i hi⟩
theorem Row.grown {a b : World} {g r : Nat} {os : List Nat} (h : Row a r os) (k : a.grownBy b (some g)) (hr : r ≠ g) : Row b r os :=
  h.of_block (k.block r h.lt (fun e => hr (Option.some.inj e)))
/-- The scale's bounds. -/
theorem scale_facts {ys : List Nat} {n t S : Nat} (ty : Tiny ys) (hl : ys.length = n + 1) (ht : ys.getD n 0 = t) (ht0 : t ≠ 0) (hS : 4294967296 / (t + 1) = S) : 1 ≤ S ∧ S < W32 ∧ val32 ys * S < W32 ^ (n + 1) ∧ W32 ^ n * S ≤ val32 ys * S := by
  have htW : t < W32 := by rw [← ht]; exact ty.getD n
  rw [W32_eq] at htW
  have h1 : 1 ≤ S := by rw [← hS]; exact (Nat.le_div_iff_mul_le (by omega)).2 (by omega)
  have h2 : S * (t + 1) ≤ 4294967296 := by rw [← hS]; exact Nat.div_mul_le_self _ _
  have h3 : S < W32 := by
    rw [W32_eq]
    have h4 := Nat.mul_le_mul_left S (show 2 ≤ t + 1 by omega)
    omega
  have e : val32 ys = val32 (ys.take n) + W32 ^ n * t := by
    have h5 := val32_take_step ys n
    rwa [List.take_of_length_le (by omega), ht] at h5
  have h6 := val32_lt (ty.take n)
  rw [List.length_take, Nat.min_eq_left (by omega)] at h6
  have hSW : S * (t + 1) ≤ W32 := by rw [W32_eq]; exact h2
  refine ⟨h1, h3, ?_, ?_⟩
  · have h7 : val32 ys < W32 ^ n * (t + 1) := by rw [e, Nat.mul_add, Nat.mul_one]; omega
    have h8 := Nat.mul_lt_mul_of_pos_right h7 (show 0 < S by omega)
    rw [Nat.mul_assoc, Nat.mul_comm (t + 1) S] at h8
    rw [Nat.pow_succ]
    exact Nat.lt_of_lt_of_le h8 (Nat.mul_le_mul_left _ hSW)
  · refine Nat.mul_le_mul_right S ?_
    rw [e]
    have := Nat.le_mul_of_pos_right (W32 ^ n) (show 0 < t by omega)
    omega
/-- The first window lies below the divisor. -/
theorem first_window {us : List Nat} {k n S V X : Nat} (hX : val32 us = X * S) (hx : X < W32 ^ (k + n)) (hk : k ≤ us.length) (hV : W32 ^ n * S ≤ V) (hS : 1 ≤ S) : val32 (us.drop k) < V := by
  have h1 := val32_split us k hk
  have h2 := Nat.mul_lt_mul_of_pos_right hx (show 0 < S by omega)
  rw [Nat.pow_add, Nat.mul_assoc] at h2
  have h3 := Nat.mul_le_mul_left (W32 ^ k) hV
  have h4 : W32 ^ k * val32 (us.drop k) < W32 ^ k * V := by omega
  exact Nat.lt_of_mul_lt_mul_left h4
set_option maxHeartbeats 2000000 in
set_option maxRecDepth 100000 in
theorem ref_long (A1 A2 : Option Addr) (l1 l2 c1 c2 n : Nat) (xs ys : List Nat) (w : World) (h1 : Lim w w.heap.size A1 xs) (h2 : Lim w w.heap.size A2 ys) (tx : Tiny xs) (ty : Tiny ys) (e1 : l1 = xs.length) (e2 : l2 = ys.length) (hn : l2 = n + 1) (hle : l2 ≤ l1) (hl : l1 ≤ 274877906944) (htop : ys.getD n 0 ≠ 0) :
    Calls Tryz.prog 100 #[.slice A1 l1 c1, .slice A2 l2 c2] w fun e w' => ∃ Aq lq cq zs Ar lr cr rs, e = .returned (.tuple #[.slice Aq lq cq, .slice Ar lr cr]) ∧ lq = zs.length ∧ lq ≤ cq ∧ zs.length ≤ l1 ∧ Lim w' w'.heap.size Aq zs ∧ Tiny zs ∧ val32 zs = val32 xs / val32 ys ∧ lr = rs.length ∧ lr ≤ cr ∧ rs.length ≤ l1 + 1 ∧ Lim w' w'.heap.size Ar rs ∧ Tiny rs ∧ val32 rs = val32 xs % val32 ys ∧ Below w.heap.size w w' := by
  have E1 := Lib.hid e1
  have E2 := Lib.hid e2
  have EN := Lib.hid hn
  have TX := Lib.hid tx
  have TY := Lib.hid ty
  have HLE := Lib.hid (And.intro hle hl)
  obtain ⟨t, ht⟩ : ∃ t, ys.getD n 0 = t := ⟨_, rfl⟩
  rw [ht] at htop
  obtain ⟨ad, rfl, _, hct⟩ := h2.at_ (k := n) (by omega)
  rw [ht] at hct
  have htW : t < W32 := by rw [← ht]; exact ty.getD n
  rw [W32_eq] at htW
  obtain ⟨t1, ht1⟩ : ∃ t1, t + 1 = t1 := ⟨_, rfl⟩
  obtain ⟨S, hS⟩ : ∃ S, 4294967296 / t1 = S := ⟨_, rfl⟩
  have HSF := Lib.hid (scale_facts (S := S) ty (by omega) ht htop (by rw [ht1]; exact hS))
  have ht1I : (t : Int) + 1 = (t1 : Int) := by omega
  have hSI : (4294967296 : Int) / (t1 : Int) = (S : Int) := by rw [← hS]; simp
  have ht10 : ¬ (t1 : Int) = 0 := by omega
  have ht10b : ((t1 : Int) == 0) = false := beq_eq_false_iff_ne.2 ht10
  have ht10n : ¬ t1 = 0 := by omega
  have wt1 : IntKind.u64.wrap (t1 : Int) = (t1 : Int) := wrap64_in (by rw [W64_eq]; omega)
  have wS : IntKind.u64.wrap (S : Int) = (S : Int) := wrap64_in (Nat.lt_trans HSF.out.2.1 W32_lt)
  have hl1I : (l1 : Int) ≤ 274877906944 := by omega
  have hl2I : (l2 : Int) ≤ (l1 : Int) := by omega
  have hnI : (l2 : Int) - 1 = (n : Int) := by omega
  have hnl : (n : Int) < (l2 : Int) := by omega
  obtain ⟨m, hm⟩ : ∃ m, l1 - l2 + 1 = m := ⟨_, rfl⟩
  have hmI : (l1 : Int) - (l2 : Int) + 1 = (m : Int) := by omega
  have HM := Lib.hid hm
  have hmk := make_limbs m (by omega)
  clear e1 e2 hn tx ty hle hl ht htop htW ht1 hS hm
  go_enter Tryz.func100, Tryz.ntmps100
  go_wp2_with fail
  have HSI := Lib.hid hSI
  have kt := ref_times A1 l1 c1 S (l1 + 1) xs w h1 (Nat.le_refl _) TX.out E1.out HSF.out.2.1 (by have := HLE.out; omega)
  rw [show ((l1 + 1 : Nat) : Int) = (l1 : Int) + 1 by omega] at kt
  refine kt.mono ?_
  clear kt
  rintro e w1 ⟨us, cy, rfl, hul, hurow, hut, huv, hb1⟩
  have HUV := Lib.hid (show val32 us = val32 xs * S by
    rw [List.take_of_length_le (by have := E1.out; omega)] at huv
    have h1 : val32 xs * S < W32 ^ (l1 + 1) := by
      have h := val32_lt TX.out
      rw [← E1.out] at h
      rw [Nat.pow_succ]
      exact Nat.mul_lt_mul'' h HSF.out.2.1
    rcases Nat.eq_zero_or_pos cy with h0 | h0
    · subst h0; omega
    · have h3 := Nat.le_mul_of_pos_left (W32 ^ (l1 + 1)) h0
      omega)
  have HUL := Lib.hid hul
  have HUT := Lib.hid hut
  have HB1 := Lib.hid hb1
  obtain ⟨gu, hgu⟩ : ∃ gu, w.heap.size = gu := ⟨_, rfl⟩
  have HGU := Lib.hid (show w.heap.size ≤ gu by omega)
  rw [hgu] at hurow ⊢
  have h21 := (h2.below hb1).more hb1.size
  clear huv hul hut hb1 hgu h1 hct h2 ht1I hSI ht10 ht10b ht10n wt1 wS
  go_wp2_with fail
  rw [HSI.out]
  have kt := ref_times (some ad) l2 c2 S l2 ys w1 h21 (Nat.le_refl _) TY.out E2.out HSF.out.2.1 (by have := HLE.out; omega)
  refine kt.mono ?_
  clear kt
  rintro e w2 ⟨vs, cy2, rfl, hvl, hvrow, hvt, hvv, hb2⟩
  have HVV := Lib.hid (show val32 vs = val32 ys * S by
    rw [List.take_of_length_le (by have := E2.out; omega)] at hvv
    have h1 := HSF.out.2.2.1
    rw [← EN.out] at h1
    rcases Nat.eq_zero_or_pos cy2 with h0 | h0
    · subst h0; omega
    · have h3 := Nat.le_mul_of_pos_left (W32 ^ l2) h0
      omega)
  have HVL := Lib.hid hvl
  have HVT := Lib.hid hvt
  have HB2 := Lib.hid (HB1.out.trans (hb2.mono HB1.out.size))
  obtain ⟨gv, hgv⟩ : ∃ gv, w1.heap.size = gv := ⟨_, rfl⟩
  have HGV := Lib.hid (show w.heap.size ≤ gv ∧ gu < gv from by have := hurow.lt; have := HB1.out.size; omega)
  rw [hgv] at hvrow ⊢
  have hurow2 := hurow.call hb2
  clear hvv hvl hvt hb2 hgv hurow h21
  go_upto_region 5 with (fail)
  obtain ⟨go_, hgo⟩ : ∃ go_, w2.heap.size = go_ := ⟨_, rfl⟩
  have HGO := Lib.hid (show w.heap.size ≤ go_ ∧ gu < go_ ∧ gv < go_ from by have := hvrow.lt; have := hurow2.lt; have := HB2.out.size; omega)
  have hur := hurow2.alloc (.cells (madeCells #[.int .u64 0] m) 85)
  have hvr := hvrow.alloc (.cells (madeCells #[.int .u64 0] m) 85)
  have hor := Row.made w2 m (t := 85)
  have HB3 := Lib.hid (HB2.out.alloc HB2.out.size (.cells (madeCells #[.int .u64 0] m) 85))
  rw [hgo] at hor ⊢
  clear hurow2 hvrow hgo hmk
  generalize w2.alloc (.cells (madeCells #[.int .u64 0] m) 85) = W3 at hur hvr hor HB3 ⊢
  go_wp2_with fail
  obtain ⟨V, hV⟩ : ∃ V, val32 vs = V := ⟨_, rfl⟩
  have HV := Lib.hid hV
  have HVL2 := Lib.hid (show V < W32 ^ (n + 1) ∧ 0 < V ∧ W32 ^ n * S ≤ V from by
    have h1 := HSF.out.2.2.1
    have h2 := HSF.out.2.2.2
    rw [← HVV.out, hV] at h1 h2
    refine ⟨h1, ?_, h2⟩
    have h3 := Nat.mul_pos (Nat.pow_pos (n := n) W32_pos) (show 0 < S from HSF.out.1)
    omega)
  have HFW := Lib.hid (show val32 (us.drop m) < V from first_window HUV.out (n := n) (by
    have h := val32_lt TX.out
    rwa [← E1.out, show l1 = m + n by have := HM.out; have := EN.out; have := HLE.out; omega] at h) (by rw [HUL.out]; have := HM.out; have := EN.out; omega) HVL2.out.2.2 HSF.out.1)
  clear hV hmI
  go_loopw [10] (fun t10 wr => ∃ (k : Nat) (us' os : List Nat), k ≤ m ∧ t10 = .int .i64 ((k : Int) - 1) ∧ Row wr gu us' ∧ Row wr gv vs ∧ Row wr go_ os ∧ us'.length = l1 + 1 ∧ Tiny us' ∧ os.length = m ∧ Tiny os ∧ val32 (us'.drop k) < V ∧ val32 us = val32 us' + val32 (os.drop k) * W32 ^ k * V ∧ Below w.heap.size w wr) (fun t10 _ => (intOf t10 + 1).toNat)
  case atStart =>
    exact ⟨m, us, List.replicate m 0, Nat.le_refl _, by have := HM.out; have := HLE.out; congr 1; omega, hur, hvr, hor, HUL.out, HUT.out, by simp, Tiny.zeros m, HFW.out, by rw [List.drop_of_length_le (by simp), val32_nil]; simp, HB3.out⟩
  case round =>
    clear hur hvr hor
    obtain ⟨k, us', os, hk, rfl, hur, hvr, hor, hul, hut, hol, hot, hlt, hval, hb⟩ := hrel
    have HK := Lib.hid hk
    have HUL2 := Lib.hid hul
    have HUT2 := Lib.hid hut
    have HOL := Lib.hid hol
    have HOT := Lib.hid hot
    have HLT := Lib.hid hlt
    have HVAL := Lib.hid hval
    have HB := Lib.hid hb
    clear hk hul hut hol hot hlt hval hb
    rcases k with _ | p
    · have HQR := Lib.hid (show val32 os = val32 xs / val32 ys ∧ val32 us' = (val32 xs % val32 ys) * S from by
        have h := HVAL.out
        have h2 := HLT.out
        rw [List.drop_zero] at h h2
        rw [Nat.pow_zero, Nat.mul_one, HUV.out] at h
        have hS0 : 0 < S := HSF.out.1
        have hd : val32 xs * S / V = val32 os := by
          rw [h, Nat.add_mul_div_right _ _ HVL2.out.2.1, Nat.div_eq_of_lt h2, Nat.zero_add]
        have hm : val32 xs * S % V = val32 us' := by
          rw [h, Nat.add_mul_mod_self_right, Nat.mod_eq_of_lt h2]
        rw [← HV.out, HVV.out] at hd hm
        rw [Nat.mul_div_mul_right _ _ hS0] at hd
        rw [Nat.mul_mod_mul_right] at hm
        exact ⟨hd.symm, hm.symm⟩)
      have hlimu := hur.lim (B := wr.heap.size) hur.lt
      have HTU := Lib.hid (length_trimL_le us')
      have HTO := Lib.hid (length_trimL_le os)
      have HOR := Lib.hid hor
      clear hvr hor
      go_wp2_with fail
      refine (ref_low (some ⟨gu, 0, none⟩) (l1 + 1) (l1 + 1) us' wr hlimu HUL2.out.symm (Nat.le_refl _) (by have := HLE.out; omega)).mono ?_
      rintro e w5 ⟨rfl, rfl⟩
      have h5 := hlimu.take (trimL us').length
      rw [← trimL_prefix] at h5
      clear hlimu hur
      go_wp2_with fail
      refine (ref_short (some ⟨gu, 0, none⟩) (trimL us').length (l1 + 1) S (trimL us') wr h5 HUT2.out.trim rfl (by have := HTU.out; have := HUL2.out; have := HLE.out; omega) HSF.out.1 HSF.out.2.1).mono ?_
      rintro e w6 ⟨Ar, lr, cr, rs, rfl, hrl, hrc, hrl2, hrlim, hrt, -, hrv, hb6⟩
      have HRS := Lib.hid (And.intro hrl (And.intro hrc (And.intro hrl2 (And.intro hrlim (And.intro hrt hrv)))))
      have hor6 := HOR.out.call hb6
      have HB6 := Lib.hid (HB.out.trans (hb6.mono HB.out.size))
      clear hrl hrc hrl2 hrlim hrt hrv hb6 h5
      have hlimo := hor6.lim (B := w6.heap.size) hor6.lt
      go_wp2_with fail
      refine (ref_low (some ⟨go_, 0, none⟩) m m os w6 hlimo HOL.out.symm (Nat.le_refl _) (by have := HM.out; have := HLE.out; omega)).mono ?_
      rintro e w7 ⟨rfl, rfl⟩
      go_wp2_with fail
      go_ret2
      have h7 := hlimo.take (trimL os).length
      rw [← trimL_prefix] at h7
      refine ⟨some ⟨go_, 0, none⟩, (trimL os).length, m, trimL os, Ar, lr, cr, rs, rfl, rfl, by have := HTO.out; have := HOL.out; omega, by have := HTO.out; have := HOL.out; have := HM.out; have := EN.out; have := HLE.out; omega, h7, HOT.out.trim, by rw [val32_trim]; exact HQR.out.1, HRS.out.1, HRS.out.2.1, ?_, HRS.out.2.2.2.1, HRS.out.2.2.2.2.1, ?_, HB6.out⟩
      · have := HRS.out.2.2.1
        have := HTU.out
        have := HUL2.out
        omega
      · rw [HRS.out.2.2.2.2.2, val32_trim, HQR.out.2, Nat.mul_div_cancel _ (show 0 < S from HSF.out.1)]
    · have e1 : ((p + 1 : Nat) : Int) - 1 = (p : Int) := by omega
      have hp0 : (0 : Int) ≤ (p : Int) := by omega
      rw [e1]
      have HP := Lib.hid (show p + (n + 1) ≤ us'.length by rw [HUL2.out]; have := HM.out; have := EN.out; have := HLE.out; have := HK.out; omega)
      have hpI : (p : Int) + (l2 : Int) < (l1 : Int) + 1 := by have := HM.out; have := HLE.out; have := HK.out; omega
      obtain ⟨d, hd⟩ : ∃ d, p + l2 = d := ⟨_, rfl⟩
      have hdI : (p : Int) + (l2 : Int) = (d : Int) := by omega
      obtain ⟨d1, hd1⟩ : ∃ d1, p + n = d1 := ⟨_, rfl⟩
      have hd1I : (d : Int) - 1 = (d1 : Int) := by omega
      have hdl : (d : Int) < (l1 : Int) + 1 := by omega
      have hd1l : (d1 : Int) < (l1 : Int) + 1 := by omega
      obtain ⟨hi, hhi⟩ : ∃ hi, us'.getD d 0 = hi := ⟨_, rfl⟩
      obtain ⟨lo, hlo⟩ : ∃ lo, us'.getD d1 0 = lo := ⟨_, rfl⟩
      obtain ⟨vt, hvt⟩ : ∃ vt, vs.getD n 0 = vt := ⟨_, rfl⟩
      have hci := hur.cell (k := d) (by rw [HUL2.out]; omega)
      have hcl := hur.cell (k := d1) (by rw [HUL2.out]; omega)
      have hcv := hvr.cell (k := n) (by rw [HVL.out, EN.out]; omega)
      rw [hhi] at hci
      rw [hlo] at hcl
      rw [hvt] at hcv
      have HHI := Lib.hid (show hi < W32 ∧ lo < W32 ∧ vt < W32 from ⟨by rw [← hhi]; exact HUT2.out.getD d, by rw [← hlo]; exact HUT2.out.getD d1, by rw [← hvt]; exact HVT.out.getD n⟩)
      obtain ⟨h32, hh32⟩ : ∃ h32, hi * 4294967296 = h32 := ⟨_, rfl⟩
      obtain ⟨top, htop⟩ : ∃ top, h32 + lo = top := ⟨_, rfl⟩
      have HTW := Lib.hid (show top < W64 ∧ h32 < W64 by have h := HHI.out; rw [W32_eq] at h; rw [W64_eq]; omega)
      have hh32I : (hi : Int) * 4294967296 = (h32 : Int) := by omega
      have htopI : (h32 : Int) + (lo : Int) = (top : Int) := by omega
      have wh : IntKind.u64.wrap (h32 : Int) = (h32 : Int) := wrap64_in HTW.out.2
      have wtp : IntKind.u64.wrap (top : Int) = (top : Int) := wrap64_in HTW.out.1
      have HTOP := Lib.hid (show lo + W32 * hi = top by rw [W32_eq]; omega)
      have HDD := Lib.hid (show us'.getD (p + n) 0 = lo ∧ us'.getD (p + (n + 1)) 0 = hi ∧ vs.getD n 0 = vt from ⟨by rw [hd1, hlo], by rw [show p + (n + 1) = d by have := EN.out; omega, hhi], hvt⟩)
      clear hhi hlo hvt hh32 htop hd hd1 e1
      go_wp2_with fail
      go_quiet (fail)
      have hur2 := hur.drewN nq
      have hvr2 := hvr.drewN nq
      have hor2 := hor.drewN nq
      have HB2' := Lib.hid (below_drewN HB.out nq)
      have hcv2 : (wr.drewN nq).cell? ⟨gv, n, none⟩ = some (.int .u64 (vt : Int)) := hcv
      generalize wr.drewN nq = wq at hur2 hvr2 hor2 HB2' hcv2 ⊢
      have HVT0 := Lib.hid (show 1 ≤ vt from by
        have h1 := val32_take_step vs n
        rw [List.take_of_length_le (by rw [HVL.out, EN.out]; exact Nat.le_refl _), HV.out, HDD.out.2.2] at h1
        have h2 := val32_lt (HVT.out.take n)
        rw [List.length_take, Nat.min_eq_left (by rw [HVL.out, EN.out]; omega)] at h2
        have h3 := HVL2.out.2.2
        have h4 := Nat.le_mul_of_pos_right (W32 ^ n) (show 0 < S from HSF.out.1)
        rcases Nat.eq_zero_or_pos vt with h0 | h0
        · subst h0
          rw [Nat.mul_zero] at h1
          omega
        · exact h0)
      have hvt0 : ¬ (vt : Int) = 0 := by have := HVT0.out; omega
      have hvt0b : ((vt : Int) == 0) = false := beq_eq_false_iff_ne.2 hvt0
      have hvt0n : ¬ vt = 0 := by have := HVT0.out; omega
      obtain ⟨qt, hqt⟩ : ∃ qt, top / vt = qt := ⟨_, rfl⟩
      have hqtI : (top : Int) / (vt : Int) = (qt : Int) := by rw [← hqt]; simp
      have wqt : IntKind.u64.wrap (qt : Int) = (qt : Int) := wrap64_in (by rw [← hqt]; exact Nat.lt_of_le_of_lt (Nat.div_le_self _ _) HTW.out.1)
      have HQT := Lib.hid hqt
      clear hci hcl hcv hur hvr hor HB hh32I htopI wh wtp hqt
      go_wp2_with fail
      obtain ⟨q0, hq0⟩ : ∃ q0, min qt 4294967295 = q0 := ⟨_, rfl⟩
      have hq0I : min (qt : Int) 4294967295 = (q0 : Int) := by omega
      have HQ0 := Lib.hid (show q0 < W32 by rw [W32_eq]; omega)
      obtain ⟨win, hwin⟩ : ∃ win, (us'.drop p).take (n + 1 + 1) = win := ⟨_, rfl⟩
      have HWIN := Lib.hid hwin
      have HOW := Lib.hid (over_win32 HUT2.out (p := p) (lb := n + 1) (by rw [HUL2.out]; have := HM.out; have := EN.out; have := HLE.out; have := HK.out; omega) HVL2.out.1 HLT.out)
      have HQQ := Lib.hid (show val32 win / V ≤ q0 from by
        have hwl : win.length = n + 2 := by rw [← hwin, List.length_take, List.length_drop, HUL2.out]; have := HM.out; have := EN.out; have := HLE.out; have := HK.out; omega
        have hwt : Tiny win := by rw [← hwin]; exact (show Tiny (us'.drop p) from fun y hy => HUT2.out y (List.mem_of_mem_drop hy)).take _
        have h1 := guess_ge32 (vs := vs) hwt (n := n) (by rw [HVL.out, EN.out]) hwl
        have g0 : win.getD n 0 = lo := by rw [← hwin, win_get us' p (n + 1 + 1) n (by omega), HDD.out.1]
        have g1 : win.getD (n + 1) 0 = hi := by rw [← hwin, win_get us' p (n + 1 + 1) (n + 1) (by omega), HDD.out.2.1]
        rw [HV.out, HDD.out.2.2, g0, g1, HTOP.out] at h1
        have h2 : val32 win / V ≤ qt := by rw [← HQT.out]; exact (Nat.le_div_iff_mul_le HVT0.out).2 h1
        have h3 : val32 win / V < W32 := by
          have h4 := HOW.out.1
          rw [hwin] at h4
          exact Nat.div_lt_of_lt_mul h4
        rw [W32_eq] at h3
        omega)
      rw [hq0I]
      clear hq0 hq0I hwin hqtI wqt hvt0 hvt0b hvt0n hcv2
      go_loopw [12] (fun t12 wr => ∃ q : Nat, t12 = .int .u64 (q : Int) ∧ val32 win / V ≤ q ∧ q < W32 ∧ Row wr gu us' ∧ Row wr gv vs ∧ Row wr go_ os ∧ Below w.heap.size w wr) (fun t12 _ => (intOf t12).toNat)
      case atStart => exact ⟨q0, rfl, HQQ.out, HQ0.out, hur2, hvr2, hor2, HB2'.out⟩
      case round =>
        clear hur2 hvr2 hor2
        obtain ⟨q, rfl, hqge, hqw, hur, hvr, hor, hb⟩ := hrel
        have HQG := Lib.hid hqge
        have HQW := Lib.hid hqw
        have HBR := Lib.hid hb
        clear hqge hqw hb
        have e2 : (us'.drop p).take (l2 + 1) = win := by rw [EN.out]; exact HWIN.out
        have HE2 := Lib.hid e2
        have hlimv := hvr.lim (B := wr.heap.size) hvr.lt
        have kl := ref_less gu (l1 + 1) (l1 + 1) p l2 q us' (some ⟨gv, 0, none⟩) l2 vs wr hur HUL2.out.symm (by have h := HP.out; rw [EN.out]; have h3 := HUL2.out; have h4 := HM.out; have h5 := HK.out; have h6 := HLE.out; have h7 := EN.out; omega) HUT2.out hlimv HVT.out HVL.out.symm HQW.out (by rw [HUL2.out]; have := HLE.out; omega)
        rw [HV.out, e2] at kl
        clear e2 hlimv
        go_wp2_with fail
        refine kl.mono ?_
        clear kl
        rintro e w5 ⟨us2, rfl, hur5, hgr, htk, hno⟩
        have hvr5 := hvr.grown hgr (by have := HGV.out; omega)
        have hor5 := hor.grown hgr (by have := HGO.out; omega)
        have HB5 := Lib.hid (below_of_grown HBR.out hgr HGU.out)
        clear hur hvr hor hgr
        by_cases hfit : V * q ≤ val32 win
        · rw [decide_eq_true hfit]
          have HTK := Lib.hid (htk hfit)
          have HQE := Lib.hid (show q = val32 win / V from by
            have h1 : q ≤ val32 win / V := (Nat.le_div_iff_mul_le HVL2.out.2.1).2 (by rw [Nat.mul_comm]; exact hfit)
            have := HQG.out
            omega)
          clear hfit htk hno
          have HPO := Lib.hid (show p < os.length by rw [HOL.out]; have := HK.out; omega)
          have hpm : (p : Int) < (m : Int) := by have := HK.out; omega
          have hfo := hor5.free p
          have hco := hor5.cell (k := p) HPO.out
          have HTH := HTK.out.is
          go_wp2_with fail
          have HSTP := over_step32 (us := us') (us' := us2) (os := os) (q := q) HUT2.out HTK.out.len (p := p) (lb := n + 1) (by rw [HUL2.out]; have := HM.out; have := EN.out; have := HLE.out; have := HK.out; omega) HVL2.out.2.1 HVL2.out.1 HLT.out HVAL.out (by rw [HWIN.out]; exact HQE.out) HTK.out.low (by have h := HTK.out.high; rwa [EN.out] at h) (by
            have h := HTK.out.is
            rw [HE2.out, EN.out] at h
            rw [HWIN.out]
            have h2 := Nat.div_add_mod (val32 win) V
            rw [← HQE.out] at h2
            omega) HPO.out
          exact ⟨⟨p, us2, os.set p q, by have := HK.out; omega, rfl, hur5.far (by have := HGO.out; show gu ≠ go_; omega) _, hvr5.far (by have := HGO.out; show gv ≠ go_; omega) _, hor5.set HPO.out (Nat.lt_trans HQW.out W32_lt), by rw [HTK.out.len, HUL2.out], HTK.out.tiny, by rw [List.length_set, HOL.out], HOT.out.set _ _ HQW.out, HSTP.1, HSTP.2, HB5.out.setCell HGO.out.1 _⟩, by simp [intOf]⟩
        · rw [decide_eq_false hfit]
          have HEQ := Lib.hid (hno hfit)
          have HQ1 := Lib.hid (show val32 win / V + 1 ≤ q from by
            have h1 : ¬ q ≤ val32 win / V := fun h => hfit (by rw [Nat.mul_comm]; exact (Nat.le_div_iff_mul_le HVL2.out.2.1).1 h)
            omega)
          obtain ⟨q1, hq1⟩ : ∃ q1, q - 1 = q1 := ⟨_, rfl⟩
          have hq11 : 1 ≤ q := Nat.le_trans (Nat.le_add_left 1 _) HQ1.out
          have hq1I : (q : Int) - 1 = (q1 : Int) := by omega
          have wq1 : IntKind.u64.wrap (q1 : Int) = (q1 : Int) := wrap64_in (by have := HQW.out; have := W32_lt; omega)
          have HQQ1 := Lib.hid (show val32 win / V ≤ q1 ∧ q1 < W32 ∧ q1 < q from by have := HQ1.out; have := HQW.out; omega)
          clear hfit htk hno hq1 hq11
          go_wp2_with fail
          refine ⟨⟨q1, rfl, HQQ1.out.1, HQQ1.out.2.1, ?_, hvr5, hor5, HB5.out⟩, by simp [intOf]; have := HQQ1.out.2.2; omega⟩
          rw [← HEQ.out]
          exact hur5
end Go.Proofs.YtonbhpadoplpkaaGreat
/- The package rosetteref00: NatDiv, NatRoot. -/
namespace Go.Proofs.YtonbhpadoplpkaaGreat
open Go.RowKit Go.Deep
set_option maxHeartbeats 1000000 in
set_option maxRecDepth 100000 in
theorem nat_div (u v : Value) (a b : Nat) (w : World) (hu : NatAt w u a) (hv : NatAt w v b) (la : lc a ≤ 68719476736) (lb : lc b ≤ 68719476736) (hb : b ≠ 0) :
    Calls Tryz.prog 55 #[u, v] w fun e w' => ∃ q r, e = .returned (.tuple #[q, r]) ∧ NatAt w' q (a / b) ∧ NatAt w' r (a % b) ∧ Below w.heap.size w w' := by
  have HU := Lib.hid hu
  have HV := Lib.hid hv
  obtain ⟨A1, l1, c1, rfl, e1, hc1, h1⟩ := hu
  obtain ⟨A2, l2, c2, rfl, e2, hc2, h2⟩ := hv
  have H1 := Lib.hid (And.intro e1 (And.intro hc1 h1))
  have H2 := Lib.hid (And.intro e2 (And.intro hc2 h2))
  have LA := Lib.hid la
  have LB := Lib.hid lb
  have HB := Lib.hid hb
  clear e1 hc1 h1 e2 hc2 h2 la lb hb
  go_enter Tryz.func55, Tryz.ntmps55
  go_wp2_with fail
  refine (ref_halves A1 l1 c1 (limbs a) w H1.out.2.2 H1.out.1 (by have := H1.out.1; have := LA.out; unfold lc at this; omega)).mono ?_
  rintro e w1 ⟨x, rfl, hx, hb1⟩
  have HX1 := Lib.hid (hx.mono (Nat.zero_le _))
  have HB1 := Lib.hid hb1
  have H21 := Lib.hid ((H2.out.2.2.below hb1).more hb1.size)
  clear hx hb1
  go_wp2_with fail
  refine (ref_halves A2 l2 c2 (limbs b) w1 H21.out H2.out.1 (by have := H2.out.1; have := LB.out; unfold lc at this; omega)).mono ?_
  rintro e w2 ⟨y, rfl, hy, hb2⟩
  have hx2 := HX1.out.below hb2
  have HB2 := Lib.hid (HB1.out.trans (hb2.mono HB1.out.size))
  obtain ⟨Ax, cx, rfl, hcx, hlx, _⟩ := hx2.form
  obtain ⟨Ay, cy, rfl, hcy, hly, _⟩ := hy.form
  have hDX : Hid (Tiny (dig (limbs a)) ∧ Norm (dig (limbs a)) ∧ val32 (dig (limbs a)) = a ∧ (dig (limbs a)).length ≤ 2 * lc a) := Lib.hid ⟨tiny_dig (small_limbs a), norm_dig _, by rw [val32_dig, val_limbs], dig_length _⟩
  have hDY : Hid (Tiny (dig (limbs b)) ∧ Norm (dig (limbs b)) ∧ val32 (dig (limbs b)) = b ∧ (dig (limbs b)).length ≤ 2 * lc b) := Lib.hid ⟨tiny_dig (small_limbs b), norm_dig _, by rw [val32_dig, val_limbs], dig_length _⟩
  obtain ⟨xs, hxs⟩ : ∃ xs, dig (limbs a) = xs := ⟨_, rfl⟩
  obtain ⟨ys, hys⟩ : ∃ ys, dig (limbs b) = ys := ⟨_, rfl⟩
  rw [hxs] at hDX hlx hcx ⊢
  rw [hys] at hDY hly hcy ⊢
  have HLX := Lib.hid hlx
  have HLY := Lib.hid hly
  obtain ⟨lx, hlx'⟩ : ∃ lx, xs.length = lx := ⟨_, rfl⟩
  obtain ⟨ly, hly'⟩ : ∃ ly, ys.length = ly := ⟨_, rfl⟩
  rw [hlx'] at hcx ⊢
  rw [hly'] at hcy ⊢
  have HLEX := Lib.hid hlx'
  have HLEY := Lib.hid hly'
  have HCX := Lib.hid (And.intro hcx hcy)
  have HA2 := Lib.hid (HU.out.below HB2.out)
  clear hxs hys hx2 hy hlx hly hcx hcy hlx' hly' hb2 HX1 HB1 H21
  by_cases hlt : lx < ly
  · have hI : (lx : Int) < (ly : Int) := by omega
    have HAB := Lib.hid (show a < b from by
      refine Nat.lt_of_not_le fun hba => ?_
      have h1 := val32_lt hDX.out.1
      rw [hDX.out.2.2.1] at h1
      have h2 := norm_len hDY.out.2.1 (n := xs.length) (by rw [hDY.out.2.2.1]; omega)
      have := HLEX.out
      have := HLEY.out
      omega)
    clear hlt
    go_wp2_with fail
    refine (nat_trim HA2.out (by have := LA.out; omega)).mono ?_
    rintro e w3 ⟨r, rfl, hr, -, hb3⟩
    go_wp2_with fail
    go_ret2
    refine ⟨_, _, rfl, ?_, ?_, HB2.out.trans (hb3.mono HB2.out.size)⟩
    · rw [Nat.div_eq_of_lt HAB.out]; exact NatAt.nil _
    · rw [Nat.mod_eq_of_lt HAB.out]; exact hr
  · have hI : ¬ (lx : Int) < (ly : Int) := by omega
    by_cases h1 : ly = 1
    · have h1I : (ly : Int) = 1 := by omega
      obtain ⟨ad, rfl, _, hc0⟩ := HLY.out.at_ (k := 0) (by rw [HLEY.out]; omega)
      obtain ⟨y0, hy0⟩ : ∃ y0, ys.getD 0 0 = y0 := ⟨_, rfl⟩
      rw [hy0] at hc0
      have hc0' : w2.cell? ad = some (.int .u64 (y0 : Int)) := by simpa [Addr.add] using hc0
      have HY0 := Lib.hid (show y0 = b ∧ y0 < W32 from by
        have h2 := val32_take_step ys 0
        rw [List.take_of_length_le (by rw [HLEY.out]; omega), hDY.out.2.2.1, hy0] at h2
        refine ⟨by simpa [val32] using h2.symm, by rw [← hy0]; exact hDY.out.1.getD 0⟩)
      have HXL := Lib.hid (show lx ≤ 549755813888 from by have := hDX.out.2.2.2; have := HLEX.out; have := LA.out; omega)
      clear hlt h1 hy0
      go_wp2_with fail
      refine (ref_short Ax lx cx y0 xs w2 HLX.out hDX.out.1 HLEX.out.symm HXL.out (by have := HY0.out.1; have := HB.out; omega) HY0.out.2).mono ?_
      rintro e w3 ⟨Aq, lq, cq, zs, rfl, hzl, hzc, hzl2, hzlim, hzt, -, hzv, hb3⟩
      rw [hDX.out.2.2.1] at hzv ⊢
      have HZ := Lib.hid (And.intro hzl (And.intro hzc (And.intro hzl2 (And.intro hzlim (And.intro hzt hzv)))))
      have HB3 := Lib.hid (HB2.out.trans (hb3.mono HB2.out.size))
      obtain ⟨r0, hr0⟩ : ∃ r0, a % y0 = r0 := ⟨_, rfl⟩
      have HR0 := Lib.hid hr0
      rw [hr0]
      have HRW := Lib.hid (show r0 < W64 from by rw [← hr0]; exact Nat.lt_trans (Nat.mod_lt _ (by have := HY0.out.1; have := HB.out; omega)) (Nat.lt_trans HY0.out.2 W32_lt))
      clear hzl hzc hzl2 hzlim hzt hzv hb3 hr0
      go_wp2_with fail
      refine (ref_limbs Aq lq cq zs w3 HZ.out.2.2.2.1 HZ.out.2.2.2.2.1 HZ.out.1 (by have := HZ.out.1; have := HZ.out.2.2.1; have := HXL.out; omega)).mono ?_
      rintro e w4 ⟨q, rfl, hq, hb4⟩
      have HQ4 := Lib.hid (NatAt.of_own hq)
      have HB4 := Lib.hid (HB3.out.trans (hb4.mono HB3.out.size))
      clear hq hb4
      go_wp2_with fail
      refine (ref_of r0 w4 HRW.out).mono ?_
      rintro e w5 ⟨r, rfl, hr, hb5⟩
      have HQ5 := Lib.hid (HQ4.out.below hb5)
      have HR5 := Lib.hid (NatAt.of_own hr)
      have HB5 := Lib.hid (HB4.out.trans (hb5.mono HB4.out.size))
      clear hr hb5
      go_wp2_with fail
      go_ret2
      refine ⟨_, _, rfl, ?_, ?_, HB5.out⟩
      · have h := HQ5.out
        rwa [HZ.out.2.2.2.2.2, HY0.out.1] at h
      · have h := HR5.out
        rwa [← HR0.out, HY0.out.1] at h
    · have h1I : ¬ (ly : Int) = 1 := by omega
      have HLY0 := Lib.hid (show 1 ≤ ly from by
        rcases Nat.eq_zero_or_pos ly with h0 | h0
        · exfalso
          have h2 := List.eq_nil_of_length_eq_zero (show ys.length = 0 by rw [HLEY.out, h0])
          have h3 := hDY.out.2.2.1
          rw [h2] at h3
          exact HB.out h3.symm
        · exact h0)
      have HXL := Lib.hid (show lx ≤ 274877906944 from by have := hDX.out.2.2.2; have := HLEX.out; have := LA.out; omega)
      have HTOP := Lib.hid (show ys.getD (ly - 1) 0 ≠ 0 from by
        rcases hDY.out.2.1 with h0 | h0
        · exfalso
          have h3 := hDY.out.2.2.1
          rw [h0] at h3
          exact HB.out h3.symm
        · rwa [HLEY.out] at h0)
      have HGE := Lib.hid (show ly ≤ lx by omega)
      clear hlt h1
      go_wp2_with fail
      refine (ref_long Ax Ay lx ly cx cy (ly - 1) xs ys w2 HLX.out HLY.out hDX.out.1 hDY.out.1 HLEX.out.symm HLEY.out.symm (by have := HLY0.out; omega) HGE.out HXL.out HTOP.out).mono ?_
      rintro e w3 ⟨Aq, lq, cq, zs, Ar, lr, cr, rs, rfl, hzl, hzc, hzl2, hzlim, hzt, hzv, hrl, hrc, hrl2, hrlim, hrt, hrv, hb3⟩
      rw [hDX.out.2.2.1, hDY.out.2.2.1] at hzv hrv
      have HZ := Lib.hid (And.intro hzl (And.intro hzc (And.intro hzl2 (And.intro hzlim (And.intro hzt hzv)))))
      have HRR := Lib.hid (And.intro hrl (And.intro hrc (And.intro hrl2 (And.intro hrlim (And.intro hrt hrv)))))
      have HB3 := Lib.hid (HB2.out.trans (hb3.mono HB2.out.size))
      clear hzl hzc hzl2 hzlim hzt hzv hrl hrc hrl2 hrlim hrt hrv hb3
      go_wp2_with fail
      refine (ref_limbs Aq lq cq zs w3 HZ.out.2.2.2.1 HZ.out.2.2.2.2.1 HZ.out.1 (by have := HZ.out.1; have := HZ.out.2.2.1; have := HXL.out; omega)).mono ?_
      rintro e w4 ⟨q, rfl, hq, hb4⟩
      have HQ4 := Lib.hid (NatAt.of_own hq)
      have HB4 := Lib.hid (HB3.out.trans (hb4.mono HB3.out.size))
      have HRL := Lib.hid ((HRR.out.2.2.2.1.below hb4).more hb4.size)
      clear hq hb4
      go_wp2_with fail
      refine (ref_limbs Ar lr cr rs w4 HRL.out HRR.out.2.2.2.2.1 HRR.out.1 (by have := HRR.out.1; have := HRR.out.2.2.1; have := HXL.out; omega)).mono ?_
      rintro e w5 ⟨r, rfl, hr, hb5⟩
      have HQ5 := Lib.hid (HQ4.out.below hb5)
      have HR5 := Lib.hid (NatAt.of_own hr)
      have HB5 := Lib.hid (HB4.out.trans (hb5.mono HB4.out.size))
      clear hr hb5
      go_wp2_with fail
      go_ret2
      refine ⟨_, _, rfl, ?_, ?_, HB5.out⟩
      · have h := HQ5.out
        rwa [HZ.out.2.2.2.2.2] at h
      · have h := HR5.out
        rwa [HRR.out.2.2.2.2.2] at h
end Go.Proofs.YtonbhpadoplpkaaGreat
/- The package rosettekit: whole numbers. -/
namespace Go.Proofs.YtonbhpadoplpkaaGreat
open Go.RowKit Go.Deep
set_option maxRecDepth 100000 in
theorem kit_made (neg : Bool) (v : Value) (n : Nat) (w : World) (h : NatAt w v n) (hl : lc n ≤ 1099511627776) :
    Calls Tryz.prog 56 #[.bool neg, v] w fun e w' => ∃ u, e = .returned u ∧ IntV w' u (signed neg n) ∧ Below w.heap.size w w' := by
  have HH := Lib.hid h
  have HL := Lib.hid hl
  obtain ⟨A0, l0, c0, rfl, -, -, -, -⟩ := h.open
  clear h hl
  go_enter Tryz.func56, Tryz.ntmps56
  go_wp2_with fail
  obtain ⟨W0, g, hW, hg, bx, G_g, S_W0, hb⟩ := boxH w (.bool false) (.slice none 0 0)
  rw [hW, hg]
  replace HH := Lib.hid (HH.out.stay hb)
  have B_W0 := Lib.hid (show Since w W0 from hb)
  clear hW hg hb
  refine (nat_trim HH.out HL.out).mono ?_
  rintro e w1 ⟨r, rfl, hr, -, hb⟩
  obtain ⟨A, l, c, rfl, HE, HC, HLM, HN⟩ := hr.open
  replace bx := Lib.hid (bx.out.stay hb)
  replace B_W0 := Lib.hid (B_W0.out.stay hb)
  clear hr hb
  have a0 := bx.out.cell0
  have a1 := bx.out.cell1
  have fr := bx.out.free
  have HGG := Lib.hid (show w.heap.size ≤ g by have := G_g.out; omega)
  by_cases h0 : l = 0
  · subst h0
    have hz : n = 0 := limbs_eq_nil.1 (List.eq_nil_of_length_eq_zero HE.out.symm)
    have HZ := Lib.hid (show signed neg n = 0 by rw [hz]; cases neg <;> simp [signed])
    clear hz
    cases neg
    all_goals
      go_wp2_with fail
      refine bodyPost_ret (results_cell_row rfl _ _ g 24 #[.bool false, (.slice A 0 c)] (0, 0) _ (by rfl) bx.out.store Tryz.underlying24 rfl (by kernel_rfl)) rfl ?_
      obtain ⟨W2, hW2, bx', p⟩ := bx.out.write (.bool false) (.slice A 0 c)
      rw [hW2, HZ.out]
      exact ⟨_, rfl, ⟨A, 0, c, rfl, by rw [show (0 : Int).natAbs = 0 from rfl, limbs_zero]; rfl, HC.out, by rw [show (0 : Int).natAbs = 0 from rfl, limbs_zero]; exact Lim.nil _ _ _⟩, B_W0.out.put p HGG.out⟩
  · have hlI : (0 : Int) < (l : Int) := by omega
    have hlN : decide (0 < l) = true := decide_eq_true (by omega)
    have HNZ := Lib.hid (show n ≠ 0 by rintro rfl; rw [limbs_zero] at HE; exact h0 HE.out)
    clear h0
    cases neg
    case false =>
      go_wp2_with fail
      refine bodyPost_ret (results_cell_row rfl _ _ g 24 #[.bool false, (.slice A l c)] (0, 0) _ (by rfl) bx.out.store Tryz.underlying24 rfl (by kernel_rfl)) rfl ?_
      obtain ⟨W2, hW2, bx', p⟩ := bx.out.write (.bool false) (.slice A l c)
      rw [hW2]
      exact ⟨_, rfl, ⟨A, l, c, by simp [signed], by rw [signed_natAbs]; exact HE.out, HC.out, by rw [signed_natAbs]; exact HLM.out.put p⟩, B_W0.out.put p HGG.out⟩
    case true =>
      go_wp2_with fail
      refine bodyPost_ret (results_cell_row rfl _ _ g 24 #[.bool true, (.slice A l c)] (0, 0) _ (by rfl) bx.out.store Tryz.underlying24 rfl (by kernel_rfl)) rfl ?_
      obtain ⟨W2, hW2, bx', p⟩ := bx.out.write (.bool true) (.slice A l c)
      rw [hW2]
      exact ⟨_, rfl, ⟨A, l, c, by rw [signed_neg]; simp [HNZ.out], by rw [signed_natAbs]; exact HE.out, HC.out, by rw [signed_natAbs]; exact HLM.out.put p⟩, B_W0.out.put p HGG.out⟩
set_option maxRecDepth 100000 in
theorem kit_of (n : Int) (w : World) (h1 : -9223372036854775808 ≤ n) (h2 : n < 9223372036854775808) :
    Calls Tryz.prog 70 #[.int .i64 n] w fun e w' => ∃ v', e = .returned v' ∧ IntV w' v' n ∧ Below w.heap.size w w' := by
  by_cases hn : n < 0
  · obtain ⟨k, hk⟩ : ∃ k : Nat, n = -(k : Int) := ⟨n.natAbs, by omega⟩
    have HK := Lib.hid hk
    obtain ⟨r, e1, e2⟩ := wrap_minus (k := k) (by omega) (by omega)
    rw [← hk] at e1
    have HW := Lib.hid (show k < W64 by rw [W64_eq]; omega)
    have HSG := Lib.hid (show signed true k = n ∧ decide (n < 0) = true from ⟨by rw [hk]; rfl, decide_eq_true hn⟩)
    clear hk h1 h2
    go_enter Tryz.func70, Tryz.ntmps70
    go_wp2_with fail
    obtain ⟨W0, g, hW, hg, bx, G_g, S_W0, hb⟩ := boxH w (.bool false) (.slice none 0 0)
    rw [hW, hg]

    have B_W0 := Lib.hid (show Since w W0 from hb)
    clear hW hg hb
    refine (ref_of k W0 HW.out).mono ?_
    rintro e w1 ⟨v, rfl, ho, hb⟩
    obtain ⟨A, l, c, rfl, HE, HC, HLM, HN⟩ := (NatAt.of_own ho).open
    replace bx := Lib.hid (bx.out.stay hb)
    replace B_W0 := Lib.hid (B_W0.out.stay hb)
    clear ho hb
    have fr := bx.out.free
    have a0 := bx.out.cell0
    have a1 := bx.out.cell1
    have HGG := Lib.hid (show w.heap.size ≤ g by have := G_g.out; omega)
    go_wp2_with fail
    refine bodyPost_ret (results_cell_row rfl _ _ g 24 #[.bool true, (.slice A l c)] (0, 0) _ (by rfl) bx.out.store Tryz.underlying24 rfl (by kernel_rfl)) rfl ?_
    obtain ⟨W2, hW2, bx', p⟩ := bx.out.write (.bool true) (.slice A l c)
    rw [hW2]
    exact ⟨_, rfl, ⟨A, l, c, by rw [HSG.out.2], by rw [← HSG.out.1, signed_natAbs]; exact HE.out, HC.out, by rw [← HSG.out.1, signed_natAbs]; exact HLM.out.put p⟩, B_W0.out.put p HGG.out⟩
  · obtain ⟨k, hk⟩ : ∃ k : Nat, n = (k : Int) := ⟨n.natAbs, by omega⟩
    have e1 := wrap_plus (k := k) (by omega)
    subst hk
    have HW := Lib.hid (show k < W64 by rw [W64_eq]; omega)
    have HSG := Lib.hid (show signed false k = (k : Int) ∧ decide ((k : Int) < 0) = false from ⟨rfl, decide_eq_false hn⟩)
    clear h1 h2
    go_enter Tryz.func70, Tryz.ntmps70
    go_wp2_with fail
    obtain ⟨W0, g, hW, hg, bx, G_g, S_W0, hb⟩ := boxH w (.bool false) (.slice none 0 0)
    rw [hW, hg]

    have B_W0 := Lib.hid (show Since w W0 from hb)
    clear hW hg hb
    refine (ref_of k W0 HW.out).mono ?_
    rintro e w1 ⟨v, rfl, ho, hb⟩
    obtain ⟨A, l, c, rfl, HE, HC, HLM, HN⟩ := (NatAt.of_own ho).open
    replace bx := Lib.hid (bx.out.stay hb)
    replace B_W0 := Lib.hid (B_W0.out.stay hb)
    clear ho hb
    have fr := bx.out.free
    have a0 := bx.out.cell0
    have a1 := bx.out.cell1
    have HGG := Lib.hid (show w.heap.size ≤ g by have := G_g.out; omega)
    go_wp2_with fail
    refine bodyPost_ret (results_cell_row rfl _ _ g 24 #[.bool false, (.slice A l c)] (0, 0) _ (by rfl) bx.out.store Tryz.underlying24 rfl (by kernel_rfl)) rfl ?_
    obtain ⟨W2, hW2, bx', p⟩ := bx.out.write (.bool false) (.slice A l c)
    rw [hW2]
    exact ⟨_, rfl, ⟨A, l, c, by rw [HSG.out.2], by rw [← HSG.out.1, signed_natAbs]; exact HE.out, HC.out, by rw [← HSG.out.1, signed_natAbs]; exact HLM.out.put p⟩, B_W0.out.put p HGG.out⟩
set_option maxRecDepth 100000 in
theorem kit_zero (v : Value) (x : Raw) (w : World) (hv : RawV w v x) (hl : x.2.length ≤ 1099511627776) :
    Calls Tryz.prog 57 #[v] w fun e w' => e = .returned (.bool (decide (val x.2 = 0))) ∧ Below w.heap.size w w' := by
  obtain ⟨b1, A1, l1, c1, rfl, HV⟩ := hv.open
  have HL := Lib.hid hl
  have HP := Lib.hid HV.out.parts
  clear hv hl
  go_enter Tryz.func57, Tryz.ntmps57
  go_wp2_with fail
  obtain ⟨W0, g, hW, hg, bx, G_g, S_W0, hb⟩ := boxH w (.bool b1) (.slice A1 l1 c1)
  rw [hW, hg]
  replace HV := Lib.hid (HV.out.stay hb)
  have B_W0 := Lib.hid (show Since w W0 from hb)
  clear hW hg hb
  have a0 := bx.out.cell0
  have a1 := bx.out.cell1
  go_wp2_with fail
  refine (ref_bits A1 l1 c1 x.2 W0 HV.out.parts.2.2.2 HP.out.2.1 HP.out.2.2.1 (by have := HP.out.2.1; have := HL.out; omega)).mono ?_
  rintro e w1 ⟨rfl, hb⟩
  replace B_W0 := Lib.hid (B_W0.out.stay hb)
  obtain ⟨m, hm⟩ : ∃ m, nbits (val x.2) = m := ⟨_, rfl⟩
  rw [hm]
  have HZ := Lib.hid (show decide (val x.2 = 0) = ((m : Int) == 0) by
    have h : nbits (val x.2) ≤ 0 ↔ val x.2 < 2 ^ 0 := nbits_le
    rw [hm] at h
    by_cases h0 : val x.2 = 0
    · rw [decide_eq_true h0]
      have : m = 0 := by have := h.2 (by omega); omega
      rw [this]; rfl
    · rw [decide_eq_false h0]
      exact (beq_eq_false_iff_ne.2 (by intro h1; have := h.1 (by omega); omega)).symm)
  clear hm hb a0 a1
  go_wp2_with fail
  go_ret
  exact ⟨by rw [HZ.out]; rfl, B_W0.out⟩
set_option maxRecDepth 100000 in
theorem kit_right (v : Value) (x : Raw) (w : World) (hv : RawV w v x) :
    Calls Tryz.prog 68 #[v] w fun e w' => e = .returned (.bool (rightInt x)) ∧ Below w.heap.size w w' := by
  obtain ⟨A, l, c, rfl, hl, hc, h1⟩ := hv
  obtain ⟨b, xs⟩ := x
  simp only at hl h1 ⊢
  subst hl
  have hwo : Below w.heap.size w (w.alloc (.cells #[.bool b, .slice A xs.length c] 24)) := (Below.refl _ w).alloc (Nat.le_refl _) _
  by_cases h0 : xs.length = 0
  · obtain rfl := List.eq_nil_of_length_eq_zero h0
    have HE := Lib.hid (show rightInt (b, []) = !b by simp [rightInt])
    rw [HE.out]
    cases b
    all_goals
      go_enter Tryz.func68, Tryz.ntmps68
      go_wp2_with fail
      go_ret
      exact ⟨rfl, hwo⟩
  · have t0 : ((xs.length : Int) == 0) = false := beq_eq_false_iff_ne.2 (by omega)
    have hp : xs.length - 1 < xs.length := by omega
    by_cases h4 : xs.length ≤ 4096
    · have tI : (xs.length : Int) ≤ 4096 := by omega
      obtain ⟨ad, rfl, hb, hcell⟩ := (h1.below hwo).at_ hp
      obtain ⟨x, hx⟩ : ∃ x, xs.getD (xs.length - 1) 0 = x := ⟨_, rfl⟩
      rw [hx] at hcell
      have HE := Lib.hid (show rightInt (b, xs) = (x != 0) by
        have e0 : (xs.length == 0) = false := beq_eq_false_iff_ne.2 h0
        unfold rightInt
        simp only [e0, bne, hx, decide_eq_true h4, Bool.false_and, Bool.false_or, Bool.not_false, Bool.true_and])
      rw [HE.out]
      obtain ⟨m, hm⟩ : ∃ m, xs.length - 1 = m := ⟨_, rfl⟩
      have e1 : ((xs.length : Int) - 1) = (m : Int) := by omega
      have hml : (m : Int) < (xs.length : Int) := by omega
      rw [hm] at hcell
      clear h0 hp h4 hx hm
      go_enter Tryz.func68, Tryz.ntmps68
      go_wp2_with fail
      go_ret
      exact ⟨by rw [← int_bne]; rfl, hwo⟩
    · have tI : (4096 : Int) < (xs.length : Int) := by omega
      have HE := Lib.hid (show rightInt (b, xs) = false by simp [rightInt, h4]; intro h; exact absurd (by rw [h]; rfl) h0)
      rw [HE.out]
      clear h0 hp h4
      go_enter Tryz.func68, Tryz.ntmps68
      go_wp2_with fail
      go_ret
      exact ⟨rfl, hwo⟩
theorem results_recs {fn : Func} {p q : Tmp} {ty : TypeId} (h : fn.results = #[.cell p ty, .cell q ty]) (tmps : Array Value) (P : Program) (w : World) :
    (results fn tmps).run P w =
      ((asAddr (tmps.getD p undef)).run P w).andThen fun a w₁ => ((loadVar ty a).run P w₁).andThen fun v w₂ => ((asAddr (tmps.getD q undef)).run P w₂).andThen fun b w₃ => ((loadVar ty b).run P w₃).andThen fun x w₄ => .ok (.tuple #[v, x]) w₄ := by
  simp only [results, h]
  simp [Sem.run_bind, Result.andThen]
theorem two_stores {w : World} {r q : Nat} {b1 b2 : Bool} {A1 A2 : Option Addr} {l1 c1 l2 c2 : Nat} (h1 : Box2 w r (.bool b1) (.slice A1 l1 c1)) (h2 : Box2 w q (.bool b2) (.slice A2 l2 c2)) (hne : r ≠ q) (x y x' y' : Value) :
    ∃ W, ((((w.setCell ⟨r, 0, none⟩ x).setCell ⟨r, 1, none⟩ y).setCell ⟨q, 0, none⟩ x').setCell ⟨q, 1, none⟩ y') = W ∧ Box2 W r x y ∧ Box2 W q x' y' ∧ (∀ {v : Value} {z : Int}, IntV w v z → IntV W v z) ∧ (∀ {w0 : World}, Since w0 w → w0.heap.size ≤ r → w0.heap.size ≤ q → Since w0 W) := by
  obtain ⟨Wa, hWa, ba, pa⟩ := h1.write x y
  have bqa := h2.put pa (fun e => hne e.symm)
  obtain ⟨Wb, hWb, bb, pb⟩ := bqa.write x' y'
  rw [hWa, hWb]
  exact ⟨Wb, rfl, ba.out.put pb hne, bb.out, fun h => (h.put pa).put pb, fun h k1 k2 => (h.put pa k1).put pb k2⟩
theorem floor_same {x y : Int} (h0 : y ≠ 0) (hs : decide (x < 0) = decide (y < 0)) : signed false (x.natAbs / y.natAbs) = x.fdiv y ∧ signed (decide (x < 0)) (x.natAbs % y.natAbs) = x.fmod y := by
  rcases floor_case x y h0 with ⟨_, h, _, _⟩ | ⟨_, h1, h2⟩
  · exact absurd hs h
  · have h3 := signed_quo x y
    rw [hs] at h3
    have e : (!(decide (y < 0) == decide (y < 0))) = false := by simp
    rw [e] at h3
    exact ⟨by rw [h1]; exact h3, by rw [h2]; exact signed_rem x y⟩
theorem floor_even {x y : Int} (h0 : y ≠ 0) (hs : decide (x < 0) ≠ decide (y < 0)) (hz : x.natAbs % y.natAbs = 0) : signed true (x.natAbs / y.natAbs) = x.fdiv y ∧ x.fmod y = 0 := by
  have hm : x.tmod y = 0 := by
    have := Int.natAbs_tmod x y
    omega
  have h3 := signed_quo x y
  have e : (!(decide (x < 0) == decide (y < 0))) = true := by simpa using hs
  rw [e] at h3
  rcases floor_case x y h0 with ⟨h, _⟩ | ⟨_, h1, h2⟩
  · exact absurd hm h
  · exact ⟨by rw [h1]; exact h3, by rw [h2]; exact hm⟩
theorem floor_odd {x y : Int} (h0 : y ≠ 0) (hs : decide (x < 0) ≠ decide (y < 0)) (hz : x.natAbs % y.natAbs ≠ 0) : signed true (x.natAbs / y.natAbs + 1) = x.fdiv y ∧ signed (decide (y < 0)) (y.natAbs - x.natAbs % y.natAbs) = x.fmod y := by
  have hm : x.tmod y ≠ 0 := by
    have := Int.natAbs_tmod x y
    omega
  have h3 := signed_quo x y
  have e : (!(decide (x < 0) == decide (y < 0))) = true := by simpa using hs
  rw [e] at h3
  have h4 := signed_rem x y
  have hlt : x.natAbs % y.natAbs < y.natAbs := Nat.mod_lt _ (by omega)
  rcases floor_case x y h0 with ⟨_, _, h1, h2⟩ | ⟨h | h, _⟩
  · refine ⟨by rw [h1, ← h3]; simp [signed]; omega, ?_⟩
    rw [h2, ← h4]
    by_cases hx : x < 0
    · have hy : ¬ y < 0 := fun hy => hs (by rw [decide_eq_true hx, decide_eq_true hy])
      rw [decide_eq_true hx, decide_eq_false hy]; simp [signed]; omega
    · have hy : y < 0 := by
        rcases Decidable.em (y < 0) with hy | hy
        · exact hy
        · exact absurd (by rw [decide_eq_false hx, decide_eq_false hy]) hs
      rw [decide_eq_false hx, decide_eq_true hy]; simp [signed]; omega
  · exact absurd h hm
  · exact absurd h hs
set_option maxHeartbeats 1000000 in
set_option maxRecDepth 100000 in
theorem kit_floor (u v : Value) (x y : Int) (w : World) (hu : IntV w u x) (hv : IntV w v y) (lx : lc x.natAbs ≤ 1073741824) (ly : lc y.natAbs ≤ 1073741824) (h0 : y ≠ 0) :
    Calls Tryz.prog 54 #[u, v] w fun e w' => ∃ p q, e = .returned (.tuple #[p, q]) ∧ IntV w' p (x.fdiv y) ∧ IntV w' q (x.fmod y) ∧ Below w.heap.size w w' := by
  obtain ⟨b1, A1, l1, c1, rfl, HU⟩ := hu.open
  obtain ⟨b2, A2, l2, c2, rfl, HV⟩ := hv.open
  have HP1 := Lib.hid HU.out.parts
  have HP2 := Lib.hid HV.out.parts
  have HLX := Lib.hid lx
  have HLY := Lib.hid ly
  have H0 := Lib.hid h0
  clear hu hv lx ly h0
  go_enter Tryz.func54, Tryz.ntmps54
  go_wp2_with fail
  obtain ⟨W0, g, h, r, q, hW, hg, hh, hr, hq, bx, by_, br, bq, G_g, S_W0, hb⟩ := boxH4 w (.bool b1) (.slice A1 l1 c1) (.bool b2) (.slice A2 l2 c2) (.bool false) (.slice none 0 0) (.bool false) (.slice none 0 0)
  rw [hW, hq, hr, hh, hg]
  replace HU := Lib.hid (HU.out.stay hb)
  replace HV := Lib.hid (HV.out.stay hb)
  have B_W0 := Lib.hid (show Since w W0 from hb)
  clear hW hg hh hr hq hb
  have HNX := Lib.hid (show NatAt W0 (.slice A1 l1 c1) x.natAbs from ⟨_, _, _, rfl, HP1.out.2.1, HP1.out.2.2.1, HU.out.parts.2.2.2⟩)
  have HNY := Lib.hid (show NatAt W0 (.slice A2 l2 c2) y.natAbs from ⟨_, _, _, rfl, HP2.out.2.1, HP2.out.2.2.1, HV.out.parts.2.2.2⟩)
  have a0 := bx.out.cell0
  have a1 := bx.out.cell1
  have k0 := by_.out.cell0
  have k1 := by_.out.cell1
  go_wp2_with fail
  refine (nat_div _ _ _ _ W0 HNX.out HNY.out (by have := HLX.out; omega) (by have := HLY.out; omega) (by have := H0.out; omega)).mono ?_
  rintro e w1 ⟨uq, ur, rfl, hq, hr, hb⟩
  have HLQ := Lib.hid (show lc (x.natAbs / y.natAbs) ≤ 1073741824 ∧ lc (x.natAbs % y.natAbs) ≤ 1073741824 from ⟨Nat.le_trans (lc_mono (Nat.div_le_self _ _)) HLX.out, Nat.le_trans (lc_mono (Nat.mod_le _ _)) HLX.out⟩)
  obtain ⟨Aq, lq, cq, rfl, -, -, -, HQ⟩ := hq.open
  obtain ⟨Ar, lr, cr, rfl, -, -, -, HR⟩ := hr.open
  clear hq hr a0 a1 k0 k1 HU HV HNX
  replace HNY := Lib.hid (HNY.out.stay hb)
  replace bx := Lib.hid (bx.out.stay hb)
  replace by_ := Lib.hid (by_.out.stay hb)
  replace br := Lib.hid (br.out.stay hb)
  replace bq := Lib.hid (bq.out.stay hb)
  replace B_W0 := Lib.hid (B_W0.out.stay hb)
  clear hb
  by_cases hs : decide (x < 0) = decide (y < 0)
  · have HF := Lib.hid (floor_same H0.out hs)
    obtain rfl : b1 = b2 := by rw [HP1.out.1, HP2.out.1]; exact hs
    clear hs
    have a0 := bx.out.cell0
    have a1 := bx.out.cell1
    have k0 := by_.out.cell0
    have k1 := by_.out.cell1
    go_upto_region 3 with (fail)
    clear a0 a1 k0 k1
    have a0 := later_cell bx.out.cell0
    have a1 := later_cell bx.out.cell1
    refine wp_region_stages (fun w' => ∃ δ : Later Nix w1, w' = δ.world) [(false, 0), (false, 2), (false, 3), (false, 4), (true, 1)] 5 [.reads [_, _, _, _], .loud _] [_, _, _] (by kernel_rfl) (by kernel_rfl) rfl rfl ?_ ?_
    · exact ⟨⟨_, nix_drawn w1⟩, rfl⟩
    refine wpStages_reads ?_
    repeat (go_big_quiet_step (fail))
    refine wpQuiet_nil ?_
    refine wpStages_loud rfl ?_
    intro K hK
    go_big_op
    clear a0 a1
    have ex : Ext Nix w1 (w1.drewN 1) := nix_drawn w1
    have hb : Below w1.heap.size w1 (w1.drewN 1) := below_drewN (Below.refl _ _) 1
    replace HQ := Lib.hid (HQ.out.stay hb)
    replace HR := Lib.hid (HR.out.stay hb)
    replace br := Lib.hid (br.out.stay hb)
    replace bq := Lib.hid (bq.out.stay hb)
    replace B_W0 := Lib.hid (B_W0.out.stay hb)
    clear hb
    refine ((kit_made false _ _ _ HQ.out (Nat.le_trans HLQ.out.1 (by omega)))).mono ?_
    rintro e w2 ⟨p1, rfl, hp, hb⟩
    replace ex : Ext Nix w1 w2 := ex.later (Ext.of_below hb)
    replace HR := Lib.hid (HR.out.stay hb)
    replace br := Lib.hid (br.out.stay hb)
    replace bq := Lib.hid (bq.out.stay hb)
    replace B_W0 := Lib.hid (B_W0.out.stay hb)
    clear hb
    refine hK _ _ ⟨⟨_, ex⟩, rfl⟩ ?_
    clear hK K
    obtain ⟨bu, Au, lu, cu, rfl, HU⟩ := hp.open
    clear hp
    refine wpStages_nil ?_
    go_wp2_with fail
    refine (kit_made b1 _ _ _ HR.out (Nat.le_trans HLQ.out.2 (by omega))).mono ?_
    rintro e w3 ⟨p2, rfl, hp, hb⟩
    obtain ⟨bv, Av, lv, cv, rfl, HV⟩ := hp.open
    replace HU := Lib.hid (HU.out.stay hb)
    replace br := Lib.hid (br.out.stay hb)
    replace bq := Lib.hid (bq.out.stay hb)
    replace B_W0 := Lib.hid (B_W0.out.stay hb)
    clear hb hp
    rw [HF.out.1] at HU
    rw [HP1.out.1, HF.out.2] at HV
    have hne : ¬ r = q := by have := G_g.out; omega
    have HGG := Lib.hid (show w.heap.size ≤ r ∧ w.heap.size ≤ q by have := G_g.out; omega)
    have c0 := br.out.cell0
    have c1' := br.out.cell1
    have f0 := br.out.free 0
    have f1 := br.out.free 1
    have d0 := bq.out.cell0
    have d1 := bq.out.cell1
    have g0 := bq.out.free 0
    have g1 := bq.out.free 1
    have hTW := two_stores br.out bq.out (fun e => hne e) (.bool bu) (.slice Au lu cu) (.bool bv) (.slice Av lv cv)
    have HTW := Lib.hid hTW
    clear hTW
    go_wp2_with fail
    obtain ⟨Wt, hWt, bt1, bt2, pt1, pt2⟩ := HTW.out
    rw [hWt]
    refine bodyPost_ret (v := .tuple #[.agg #[.bool bu, (.slice Au lu cu)], .agg #[.bool bv, (.slice Av lv cv)]]) (by
      rw [results_recs rfl]
      have hld := run_loadVar_row (P := Tryz.prog) _ r 24 24 #[.bool bu, (.slice Au lu cu)] (0, 0) _ bt1 Tryz.underlying24 rfl (by kernel_rfl)
      have hld2 := run_loadVar_row (P := Tryz.prog) _ q 24 24 #[.bool bv, (.slice Av lv cv)] (0, 0) _ bt2 Tryz.underlying24 rfl (by kernel_rfl)
      simp [asAddr, Result.andThen, hld, hld2]) rfl ?_
    exact ⟨_, _, rfl, pt1 HU.out, pt1 HV.out, pt2 B_W0.out HGG.out.1 HGG.out.2⟩
  · obtain rfl : b2 = !b1 := by
      rw [HP1.out.1, HP2.out.1]
      cases hx : decide (x < 0) <;> cases hy : decide (y < 0) <;> first | rfl | (exact absurd (by rw [hx, hy]) hs)
    have HS := Lib.hid hs
    clear hs
    have a0 := bx.out.cell0
    have a1 := bx.out.cell1
    have k0 := by_.out.cell0
    have k1 := by_.out.cell1
    go_upto_region 4 with (fail)
    clear a0 a1 k0 k1
    go_wp2_with fail
    refine (nat_bits HR.out (Nat.le_trans HLQ.out.2 (by omega))).mono ?_
    rintro e w2 ⟨rfl, hb⟩
    obtain ⟨m, hm⟩ : ∃ m, nbits (x.natAbs % y.natAbs) = m := ⟨_, rfl⟩
    rw [hm]
    have HZ := Lib.hid (show x.natAbs % y.natAbs = 0 ↔ m = 0 by
      have h : nbits (x.natAbs % y.natAbs) ≤ 0 ↔ x.natAbs % y.natAbs < 2 ^ 0 := nbits_le
      rw [hm] at h
      omega)
    replace HQ := Lib.hid (HQ.out.stay hb)
    replace HR := Lib.hid (HR.out.stay hb)
    replace HNY := Lib.hid (HNY.out.stay hb)
    replace by_ := Lib.hid (by_.out.stay hb)
    replace br := Lib.hid (br.out.stay hb)
    replace bq := Lib.hid (bq.out.stay hb)
    replace B_W0 := Lib.hid (B_W0.out.stay hb)
    clear hm hb bx
    by_cases hm0 : m = 0
    · subst hm0
      have HF := Lib.hid (floor_even H0.out HS.out (HZ.out.2 rfl))
      go_wp2_with fail
      refine (kit_made true _ _ _ HQ.out (Nat.le_trans HLQ.out.1 (by omega))).mono ?_
      rintro e w3 ⟨p2, rfl, hp, hb⟩
      obtain ⟨bu, Au, lu, cu, rfl, HU⟩ := hp.open
      replace br := Lib.hid (br.out.stay hb)
      replace bq := Lib.hid (bq.out.stay hb)
      replace B_W0 := Lib.hid (B_W0.out.stay hb)
      clear hb hp
      rw [HF.out.1] at HU
      have HV := Lib.hid (show IntV w3 (.agg #[.bool false, .slice none 0 0]) (x.fmod y) by rw [HF.out.2]; exact ⟨none, 0, 0, rfl, by rw [show (0 : Int).natAbs = 0 from rfl, limbs_zero]; rfl, Nat.le_refl _, by rw [show (0 : Int).natAbs = 0 from rfl, limbs_zero]; exact Lim.nil _ _ _⟩)
      have hne : ¬ r = q := by have := G_g.out; omega
      have HGG := Lib.hid (show w.heap.size ≤ r ∧ w.heap.size ≤ q by have := G_g.out; omega)
      have c0 := br.out.cell0
      have c1' := br.out.cell1
      have f0 := br.out.free 0
      have f1 := br.out.free 1
      have d0 := bq.out.cell0
      have d1 := bq.out.cell1
      have g0 := bq.out.free 0
      have g1 := bq.out.free 1
      have hTW := two_stores br.out bq.out (fun e => hne e) (.bool bu) (.slice Au lu cu) (.bool false) (.slice none 0 0)
      have HTW := Lib.hid hTW
      clear hTW
      go_wp2_with fail
      obtain ⟨Wt, hWt, bt1, bt2, pt1, pt2⟩ := HTW.out
      rw [hWt]
      refine bodyPost_ret (v := .tuple #[.agg #[.bool bu, (.slice Au lu cu)], .agg #[.bool false, (.slice none 0 0)]]) (by
        rw [results_recs rfl]
        have hld := run_loadVar_row (P := Tryz.prog) _ r 24 24 #[.bool bu, (.slice Au lu cu)] (0, 0) _ bt1 Tryz.underlying24 rfl (by kernel_rfl)
        have hld2 := run_loadVar_row (P := Tryz.prog) _ q 24 24 #[.bool false, (.slice none 0 0)] (0, 0) _ bt2 Tryz.underlying24 rfl (by kernel_rfl)
        simp [asAddr, Result.andThen, hld, hld2]) rfl ?_
      exact ⟨_, _, rfl, pt1 HU.out, pt1 HV.out, pt2 B_W0.out HGG.out.1 HGG.out.2⟩
    · have hmI : ((m : Int) == 0) = false := beq_eq_false_iff_ne.2 (by omega)
      have HMZ := Lib.hid (show x.natAbs % y.natAbs ≠ 0 from fun h => hm0 (HZ.out.1 h))
      have HF := Lib.hid (floor_odd H0.out HS.out HMZ.out)
      have HLE := Lib.hid (show x.natAbs % y.natAbs ≤ y.natAbs from Nat.le_of_lt (Nat.mod_lt _ (by have := H0.out; omega)))
      clear hm0
      go_upto_region 6 with (fail)
      clear hmI
      have a0 := later_cell by_.out.cell0
      have a1 := later_cell by_.out.cell1
      refine wp_region_stages (fun w' => ∃ δ : Later Nix w2, w' = δ.world) [(false, 0), (false, 4), (false, 5), (false, 6), (false, 7), (false, 8), (true, 1), (true, 2), (true, 3), (true, 9)] 10 [.reads [_, _, _, _, _, _], .loud _, .loud _, .loud _, .loud _] [_, _, _] (by kernel_rfl) (by kernel_rfl) rfl rfl ?_ ?_
      · exact ⟨⟨_, nix_drawn w2⟩, rfl⟩
      refine wpStages_reads ?_
      repeat (go_big_quiet_step (fail))
      refine wpQuiet_nil ?_
      refine wpStages_loud rfl ?_
      intro K hK
      go_big_op
      clear a0 a1
      have ex : Ext Nix w2 (w2.drewN 1) := nix_drawn w2
      have hb : Below w2.heap.size w2 (w2.drewN 1) := below_drewN (Below.refl _ _) 1
      replace HQ := Lib.hid (HQ.out.stay hb)
      replace HR := Lib.hid (HR.out.stay hb)
      replace HNY := Lib.hid (HNY.out.stay hb)
      replace br := Lib.hid (br.out.stay hb)
      replace bq := Lib.hid (bq.out.stay hb)
      replace B_W0 := Lib.hid (B_W0.out.stay hb)
      clear hb
      refine ((ref_of 1 _ (by rw [W64_eq]; decide))).mono ?_
      rintro e w3 ⟨p1, rfl, hp, hb⟩
      replace ex : Ext Nix w2 w3 := ex.later (Ext.of_below hb)
      replace HQ := Lib.hid (HQ.out.stay hb)
      replace HR := Lib.hid (HR.out.stay hb)
      replace HNY := Lib.hid (HNY.out.stay hb)
      replace br := Lib.hid (br.out.stay hb)
      replace bq := Lib.hid (bq.out.stay hb)
      replace B_W0 := Lib.hid (B_W0.out.stay hb)
      clear hb
      refine hK _ _ ⟨⟨_, ex⟩, rfl⟩ ?_
      clear hK K
      have HONE := Lib.hid (NatAt.of_own hp)
      obtain ⟨A1', l1', c1', rfl, -, -, -, -⟩ := (NatAt.of_own hp).open
      clear hp
      refine wpStages_loud rfl ?_
      intro K hK
      go_big_op
      refine ((nat_add HQ.out HONE.out (Nat.le_trans HLQ.out.1 (by omega)) (Nat.le_trans (show lc 1 ≤ 1 from one_len) (by omega)))).mono ?_
      rintro e w4 ⟨p2, rfl, hp, -, hb⟩
      replace ex : Ext Nix w2 w4 := ex.later (Ext.of_below hb)
      replace HR := Lib.hid (HR.out.stay hb)
      replace HNY := Lib.hid (HNY.out.stay hb)
      replace br := Lib.hid (br.out.stay hb)
      replace bq := Lib.hid (bq.out.stay hb)
      replace B_W0 := Lib.hid (B_W0.out.stay hb)
      clear hb
      refine hK _ _ ⟨⟨_, ex⟩, rfl⟩ ?_
      clear hK K
      obtain ⟨A2', l2', c2', rfl, -, -, -, HSUM⟩ := hp.open
      clear hp HQ HONE
      refine wpStages_loud rfl ?_
      intro K hK
      go_big_op
      have HLS := Lib.hid (show lc (x.natAbs / y.natAbs + 1) ≤ 1099511627776 by have h1 := lc_add (x.natAbs / y.natAbs) 1; have h2 := HLQ.out.1; have h3 : lc 1 ≤ 1 := one_len; omega)
      refine ((kit_made true _ _ _ HSUM.out HLS.out)).mono ?_
      rintro e w5 ⟨p3, rfl, hp, hb⟩
      replace ex : Ext Nix w2 w5 := ex.later (Ext.of_below hb)
      replace HR := Lib.hid (HR.out.stay hb)
      replace HNY := Lib.hid (HNY.out.stay hb)
      replace br := Lib.hid (br.out.stay hb)
      replace bq := Lib.hid (bq.out.stay hb)
      replace B_W0 := Lib.hid (B_W0.out.stay hb)
      clear hb
      refine hK _ _ ⟨⟨_, ex⟩, rfl⟩ ?_
      clear hK K
      obtain ⟨bu, Au, lu, cu, rfl, HU⟩ := hp.open
      rw [HF.out.1] at HU
      clear hp HSUM
      refine wpStages_loud rfl ?_
      intro K hK
      go_big_op
      refine ((nat_sub HNY.out HR.out (Nat.le_trans HLY.out (by omega)) (Nat.le_trans HLQ.out.2 (by omega)) HLE.out)).mono ?_
      rintro e w6 ⟨p4, rfl, hp, -, hb⟩
      replace ex : Ext Nix w2 w6 := ex.later (Ext.of_below hb)
      replace HU := Lib.hid (HU.out.stay hb)
      replace br := Lib.hid (br.out.stay hb)
      replace bq := Lib.hid (bq.out.stay hb)
      replace B_W0 := Lib.hid (B_W0.out.stay hb)
      clear hb
      refine hK _ _ ⟨⟨_, ex⟩, rfl⟩ ?_
      clear hK K
      obtain ⟨A4, l4, c4, rfl, -, -, -, HDF⟩ := hp.open
      clear hp HR HNY
      refine wpStages_nil ?_
      go_wp2_with fail
      refine (kit_made (!b1) _ _ _ HDF.out (Nat.le_trans (lc_mono (Nat.sub_le _ _)) (Nat.le_trans HLY.out (by omega)))).mono ?_
      rintro e w7 ⟨p2, rfl, hp, hb⟩
      obtain ⟨bv, Av, lv, cv, rfl, HV⟩ := hp.open
      replace HU := Lib.hid (HU.out.stay hb)
      replace br := Lib.hid (br.out.stay hb)
      replace bq := Lib.hid (bq.out.stay hb)
      replace B_W0 := Lib.hid (B_W0.out.stay hb)
      clear hb hp
      rw [HP2.out.1, HF.out.2] at HV
      have hne : ¬ r = q := by have := G_g.out; omega
      have HGG := Lib.hid (show w.heap.size ≤ r ∧ w.heap.size ≤ q by have := G_g.out; omega)
      have c0 := br.out.cell0
      have c1' := br.out.cell1
      have f0 := br.out.free 0
      have f1 := br.out.free 1
      have d0 := bq.out.cell0
      have d1 := bq.out.cell1
      have g0 := bq.out.free 0
      have g1 := bq.out.free 1
      have hTW := two_stores br.out bq.out (fun e => hne e) (.bool bu) (.slice Au lu cu) (.bool bv) (.slice Av lv cv)
      have HTW := Lib.hid hTW
      clear hTW
      go_wp2_with fail
      obtain ⟨Wt, hWt, bt1, bt2, pt1, pt2⟩ := HTW.out
      rw [hWt]
      refine bodyPost_ret (v := .tuple #[.agg #[.bool bu, (.slice Au lu cu)], .agg #[.bool bv, (.slice Av lv cv)]]) (by
        rw [results_recs rfl]
        have hld := run_loadVar_row (P := Tryz.prog) _ r 24 24 #[.bool bu, (.slice Au lu cu)] (0, 0) _ bt1 Tryz.underlying24 rfl (by kernel_rfl)
        have hld2 := run_loadVar_row (P := Tryz.prog) _ q 24 24 #[.bool bv, (.slice Av lv cv)] (0, 0) _ bt2 Tryz.underlying24 rfl (by kernel_rfl)
        simp [asAddr, Result.andThen, hld, hld2]) rfl ?_
      exact ⟨_, _, rfl, pt1 HU.out, pt1 HV.out, pt2 B_W0.out HGG.out.1 HGG.out.2⟩
end Go.Proofs.YtonbhpadoplpkaaGreat
/- The package rosettekit: copies; the region 'q, r, e := f(CopyInt(a), CopyInt(b))'. -/
namespace Go.Proofs.YtonbhpadoplpkaaGreat
open Go.RowKit Go.Deep
/-- A variable's box, that holds a record once it is stored. -/
def BoxQ (st : Prop) (w : World) (base : Nat) (v : Value) (q : Raw) : Prop := ∃ (g : Nat) (b : Bool) (A : Option Addr) (l c : Nat), v = .pointer (some ⟨g, 0, none⟩) ∧ base ≤ g ∧ Box2 w g (.bool b) (.slice A l c) ∧ (st → RawV w (.agg #[.bool b, .slice A l c]) q)
theorem BoxQ.stay {st st' : Prop} {w w' : World} {base : Nat} {v : Value} {q : Raw} (h : BoxQ st w base v q) (hs : st' → st) (hb : Below w.heap.size w w') : BoxQ st' w' base v q := by
  obtain ⟨g, b, A, l, c, h1, h0, h2, h3⟩ := h
  exact ⟨g, b, A, l, c, h1, h0, h2.stay hb, fun e => (h3 (hs e)).stay hb⟩
theorem BoxQ.same {st st' : Prop} {w : World} {base : Nat} {v : Value} {q : Raw} (h : BoxQ st w base v q) (hs : st' → st) : BoxQ st' w base v q := by
  obtain ⟨g, b, A, l, c, h1, h0, h2, h3⟩ := h
  exact ⟨g, b, A, l, c, h1, h0, h2, fun e => h3 (hs e)⟩
theorem BoxQ.put {st st' : Prop} {w w' : World} {base k : Nat} {v : Value} {q : Raw} (h : BoxQ st w base v q) (hs : st' → st) (p : Put k w w') (hne : v ≠ .pointer (some ⟨k, 0, none⟩)) : BoxQ st' w' base v q := by
  obtain ⟨g, b, A, l, c, h1, h0, h2, h3⟩ := h
  exact ⟨g, b, A, l, c, h1, h0, h2.put p (fun e => hne (by rw [h1, e])), fun e => (h3 (hs e)).put p⟩
theorem BoxQ.new {st : Prop} {w : World} {base : Nat} {q : Raw} (hs : ¬ st) (hb : base ≤ w.heap.size) : BoxQ st (w.alloc (.cells #[.bool false, .slice none 0 0] 24)) base (.pointer (some ⟨w.heap.size, 0, none⟩)) q :=
  ⟨w.heap.size, false, none, 0, 0, rfl, hb, heap_alloc_new w _, fun e => absurd e hs⟩
theorem BoxQ.lt {st : Prop} {w : World} {base k : Nat} {q : Raw} (h : BoxQ st w base (.pointer (some ⟨k, 0, none⟩)) q) : k < w.heap.size := by
  obtain ⟨g, b, A, l, c, h1, h0, h2, h3⟩ := h
  injection h1 with h1
  injection h1 with h1
  injection h1 with h1
  subst h1
  exact h2.lt
theorem BoxQ.fresh {st : Prop} {w : World} {base : Nat} {v : Value} {q : Raw} (h : BoxQ st w base v q) : v ≠ .pointer (some ⟨w.heap.size, 0, none⟩) := by
  rintro rfl
  exact absurd h.lt (Nat.lt_irrefl _)
/-- What a call told: two records and an errno; a record, a bool and an errno; a record and an errno. -/
def Tup2 (w : World) (v : Value) (q r : Raw) (E : Int) : Prop := ∃ a b, v = .tuple #[a, b, .int .i64 E] ∧ RawV w a q ∧ RawV w b r
def Tup1b (w : World) (v : Value) (q : Raw) (ok : Bool) (E : Int) : Prop := ∃ a, v = .tuple #[a, .bool ok, .int .i64 E] ∧ RawV w a q
def Tup1 (w : World) (v : Value) (q : Raw) (E : Int) : Prop := ∃ a, v = .tuple #[a, .int .i64 E] ∧ RawV w a q
theorem Tup2.stay {w w' : World} {v : Value} {q r : Raw} {E : Int} (h : Tup2 w v q r E) (hb : Below w.heap.size w w') : Tup2 w' v q r E := by
  obtain ⟨a, b, h1, h2, h3⟩ := h; exact ⟨a, b, h1, h2.stay hb, h3.stay hb⟩
theorem Tup2.put {w w' : World} {g : Nat} {v : Value} {q r : Raw} {E : Int} (h : Tup2 w v q r E) (p : Put g w w') : Tup2 w' v q r E := by
  obtain ⟨a, b, h1, h2, h3⟩ := h; exact ⟨a, b, h1, h2.put p, h3.put p⟩
theorem Tup1b.stay {w w' : World} {v : Value} {q : Raw} {ok : Bool} {E : Int} (h : Tup1b w v q ok E) (hb : Below w.heap.size w w') : Tup1b w' v q ok E := by
  obtain ⟨a, h1, h2⟩ := h; exact ⟨a, h1, h2.stay hb⟩
theorem Tup1b.put {w w' : World} {g : Nat} {v : Value} {q : Raw} {ok : Bool} {E : Int} (h : Tup1b w v q ok E) (p : Put g w w') : Tup1b w' v q ok E := by
  obtain ⟨a, h1, h2⟩ := h; exact ⟨a, h1, h2.put p⟩
theorem Tup1.stay {w w' : World} {v : Value} {q : Raw} {E : Int} (h : Tup1 w v q E) (hb : Below w.heap.size w w') : Tup1 w' v q E := by
  obtain ⟨a, h1, h2⟩ := h; exact ⟨a, h1, h2.stay hb⟩
theorem Tup1.put {w w' : World} {g : Nat} {v : Value} {q : Raw} {E : Int} (h : Tup1 w v q E) (p : Put g w w') : Tup1 w' v q E := by
  obtain ⟨a, h1, h2⟩ := h; exact ⟨a, h1, h2.put p⟩
end Go.Proofs.YtonbhpadoplpkaaGreat
/- Contracts of the abstract machine: rosettekit. -/
namespace Go.Proofs.YtonbhpadoplpkaaGreat
open Go.RowKit Go.Deep
/-- A number's limbs. -/
abbrev aN (n : Nat) : AR := .val (.one (.st (magP (limbs n))))
abbrev vN (n : Nat) : AV := .one (.st (magP (limbs n)))
theorem cm1 {f : FuncId} {fn : Func} {c : Code} {m : Nat} {res : AR} (hf : Tryz.prog.funcs[f]? = some fn) (hname : (fn.name == "runtime.NumGoroutine") = false) (hb : fn.body = some c) (hn : res.nop = true)
    (h : ∀ (w : World) (u : Value), NatAt w u m → Calls Tryz.prog f #[u] w fun e w' => ∃ v, e = .returned v ∧ (∀ G β, res.ok G β w' v) ∧ Below w.heap.size w w') : Ct Tryz.prog f [aN m] res where
  enters := fun vals w => enters_of hf hname hb vals w
  nop := hn
  calls := by
    intro G β w vals _ ha
    rcases vals with _ | ⟨u, _ | ⟨v, vs⟩⟩
    · exact ha.elim
    · refine (h w u ha.1).mono ?_
      rintro e w' ⟨v, rfl, h1, h2⟩
      exact ⟨v, rfl, h1 G β, h2⟩
    · exact ha.2.elim
theorem cm2 {f : FuncId} {fn : Func} {c : Code} {m n : Nat} {res : AR} (hf : Tryz.prog.funcs[f]? = some fn) (hname : (fn.name == "runtime.NumGoroutine") = false) (hb : fn.body = some c) (hn : res.nop = true)
    (h : ∀ (w : World) (u v : Value), NatAt w u m → NatAt w v n → Calls Tryz.prog f #[u, v] w fun e w' => ∃ r, e = .returned r ∧ (∀ G β, res.ok G β w' r) ∧ Below w.heap.size w w') : Ct Tryz.prog f [aN m, aN n] res where
  enters := fun vals w => enters_of hf hname hb vals w
  nop := hn
  calls := by
    intro G β w vals _ ha
    rcases vals with _ | ⟨u, _ | ⟨v, _ | ⟨t, vs⟩⟩⟩
    · exact ha.elim
    · exact ha.2.elim
    · refine (h w u v ha.1 ha.2.1).mono ?_
      rintro e w' ⟨r, rfl, h1, h2⟩
      exact ⟨r, rfl, h1 G β, h2⟩
    · exact ha.2.2.elim
theorem ct_NatMul (m n : Nat) (hm : lc m ≤ 137438953472) (hn : lc n ≤ 137438953472) : Ct Tryz.prog 118 [aN m, aN n] (aN (m * n)) :=
  cm2 Tryz.func118 rfl rfl rfl fun w u v h k => (nat_mul h k hm hn).mono (by rintro e w' ⟨r, rfl, h1, _, hb⟩; exact ⟨r, rfl, fun _ _ => h1, hb⟩)
theorem ct_NatAdd (m n : Nat) (hm : lc m ≤ 137438953472) (hn : lc n ≤ 137438953472) : Ct Tryz.prog 93 [aN m, aN n] (aN (m + n)) :=
  cm2 Tryz.func93 rfl rfl rfl fun w u v h k => (nat_add h k hm hn).mono (by rintro e w' ⟨r, rfl, h1, _, hb⟩; exact ⟨r, rfl, fun _ _ => h1, hb⟩)
theorem ct_NatSub (m n : Nat) (hm : lc m ≤ 137438953472) (hn : lc n ≤ 137438953472) (h0 : n ≤ m) : Ct Tryz.prog 95 [aN m, aN n] (aN (m - n)) :=
  cm2 Tryz.func95 rfl rfl rfl fun w u v h k => (nat_sub h k hm hn h0).mono (by rintro e w' ⟨r, rfl, h1, _, hb⟩; exact ⟨r, rfl, fun _ _ => h1, hb⟩)
theorem ct_NatCmp (m n : Nat) (hm : lc m ≤ 1099511627776) (hn : lc n ≤ 1099511627776) : Ct Tryz.prog 119 [aN m, aN n] (.val (aI (cmpN m n))) :=
  cm2 Tryz.func119 rfl rfl rfl fun w u v h k => (nat_cmp h k hm hn).mono (by rintro e w' ⟨rfl, hb⟩; exact ⟨_, rfl, fun _ _ => rfl, hb⟩)
theorem ct_NatTrim (m : Nat) (hm : lc m ≤ 1099511627776) : Ct Tryz.prog 97 [aN m] (aN m) :=
  cm1 Tryz.func97 rfl rfl rfl fun w u h => (nat_trim h hm).mono (by rintro e w' ⟨r, rfl, h1, _, hb⟩; exact ⟨r, rfl, fun _ _ => h1, hb⟩)
theorem ct_NatDiv (m n : Nat) (hm : lc m ≤ 68719476736) (hn : lc n ≤ 68719476736) (h0 : n ≠ 0) : Ct Tryz.prog 55 [aN m, aN n] (.tup [vN (m / n), vN (m % n)]) :=
  cm2 Tryz.func55 rfl rfl rfl fun w u v h k => (nat_div u v m n w h k hm hn h0).mono (by rintro e w' ⟨q, r, rfl, h1, h2, hb⟩; exact ⟨_, rfl, fun _ _ => tup_ok (vs := [_, _]) ⟨h1, h2, trivial⟩, hb⟩)
theorem ct_Made (neg : Bool) (n : Nat) (hn : lc n ≤ 1099511627776) : Ct Tryz.prog 56 [.val (aB neg), aN n] (aZ (signed neg n)) where
  enters := fun vals w => enters_of Tryz.func56 rfl rfl vals w
  nop := rfl
  calls := by
    intro G β w vals _ ha
    rcases vals with _ | ⟨u, _ | ⟨v, _ | ⟨t, vs⟩⟩⟩
    · exact ha.elim
    · exact ha.2.elim
    · obtain ⟨hu, hv, _⟩ := ha
      have hu : u = .bool neg := hu
      subst hu
      refine (kit_made neg v n w hv hn).mono ?_
      rintro e w' ⟨r, rfl, h1, h2⟩
      exact ⟨r, rfl, ok_of_rawV h1.raw, h2⟩
    · exact ha.2.2.elim
theorem ct_IntOf (n : Int) (h1 : -9223372036854775808 ≤ n) (h2 : n < 9223372036854775808) : Ct Tryz.prog 70 [.val (aI n)] (aZ n) where
  enters := fun vals w => enters_of Tryz.func70 rfl rfl vals w
  nop := rfl
  calls := by
    intro G β w vals _ ha
    rcases vals with _ | ⟨u, _ | ⟨v, vs⟩⟩
    · exact ha.elim
    · obtain ⟨hu, _⟩ := ha
      have hu : u = .int .i64 n := hu
      subst hu
      refine (kit_of n w h1 h2).mono ?_
      rintro e w' ⟨v, rfl, h1, h2⟩
      exact ⟨v, rfl, ok_of_rawV h1.raw, h2⟩
    · exact ha.2.elim
theorem raw_len {z : Int} {k : Nat} (h : lc z.natAbs ≤ k) : (rawOf z).2.length ≤ k := h
theorem ct_IntZero (x : Raw) (hl : x.2.length ≤ 1099511627776) : Ct Tryz.prog 57 [aNum x] (.val (aB (decide (val x.2 = 0)))) :=
  ct1 Tryz.func57 rfl rfl rfl fun w u h => (kit_zero u x w h hl).mono (by rintro e w' ⟨rfl, hb⟩; exact ⟨_, rfl, fun _ _ => rfl, hb⟩)
theorem ct_IntZeroT (z : Int) (h : z = 0) : Ct Tryz.prog 57 [aZ z] (.val (aB true)) := by
  subst h
  have := ct_IntZero (rawOf 0) (by show (limbs (0 : Int).natAbs).length ≤ _; rw [show (0 : Int).natAbs = 0 from rfl, limbs_zero]; simp)
  rwa [decide_eq_true (by show val (limbs (0 : Int).natAbs) = 0; rw [val_limbs]; rfl)] at this
theorem ct_IntZeroF (z : Int) (hl : lc z.natAbs ≤ 1099511627776) (h : z ≠ 0) : Ct Tryz.prog 57 [aZ z] (.val (aB false)) := by
  have := ct_IntZero (rawOf z) hl
  rwa [decide_eq_false (by show ¬ val (limbs z.natAbs) = 0; rw [val_limbs]; omega)] at this
theorem ct_IntRight (x : Raw) : Ct Tryz.prog 68 [aNum x] (.val (aB (rightInt x))) :=
  ct1 Tryz.func68 rfl rfl rfl fun w u h => (kit_right u x w h).mono (by rintro e w' ⟨rfl, hb⟩; exact ⟨_, rfl, fun _ _ => rfl, hb⟩)
theorem ct_IntFloor (x y : Int) (hx : lc x.natAbs ≤ 1073741824) (hy : lc y.natAbs ≤ 1073741824) (h0 : y ≠ 0) : Ct Tryz.prog 54 [aZ x, aZ y] (.tup [zZ (x.fdiv y), zZ (x.fmod y)]) :=
  ct2 Tryz.func54 rfl rfl rfl fun w u v h k => (kit_floor u v x y w h.int k.int hx hy h0).mono (by
    rintro e w' ⟨p, q, rfl, h1, h2, hb⟩
    exact ⟨_, rfl, fun G β => tup_ok (vs := [_, _]) ⟨ok_of_rawV h1.raw, ok_of_rawV h2.raw, trivial⟩, hb⟩)
theorem ct_Same (x y : Raw) (hl : x.2.length ≤ 1099511627776) : Ct Tryz.prog 22 [aNum x, aNum y] (.val (aB (decide (x = y)))) :=
  ct2 Tryz.func22 rfl rfl rfl fun w u v h k => (kit_raw u v x y w h k hl).mono (by rintro e w' ⟨rfl, hb⟩; exact ⟨_, rfl, fun _ _ => rfl, hb⟩)
theorem ct_SameT (x : Raw) (hl : x.2.length ≤ 1099511627776) : Ct Tryz.prog 22 [aNum x, aNum x] (.val (aB true)) := by
  have := ct_Same x x hl
  rwa [decide_eq_true rfl] at this
/-- Lent limbs: behind them stand the marks. -/
def lentP (L : List Nat) : Pred where
  is := fun _ w v => ∃ A l c, v = .slice A l c ∧ l = L.length ∧ l + 12 ≤ c ∧ Lim w w.heap.size A (L ++ marks 12)
  cell := by
    rintro G w v ⟨A, l, c, rfl, _⟩
    exact ⟨noLimb_slice _ _ _, rfl⟩
  stay := by
    rintro G w w' v ⟨A, l, c, rfl, hl, hc, hlim⟩ m
    obtain ⟨H, _, e⟩ := m.ext
    exact ⟨A, l, c, rfl, hl, hc, (hlim.ext (Nat.le_refl _) e).more e.size⟩
  grow := by
    rintro G G' w v h _
    exact h
abbrev aLent (x : Raw) : AR := .val (.agg [.b x.1, .st (lentP x.2)])
theorem lentV_ok {G : Nat → Prop} {β : Nat → Nat} {w : World} {x : Raw} {v : Value} (h : LentV w v x) : (aLent x).ok G β w v := by
  obtain ⟨A, l, c, rfl, h2, h3, h4⟩ := h
  exact ⟨[_, _], rfl, rfl, ⟨A, l, c, rfl, h2, h3, h4⟩, trivial⟩
theorem ok_lentV {G : Nat → Prop} {β : Nat → Nat} {w : World} {x : Raw} {v : Value} (h : (aLent x).ok G β w v) : LentV w v x := by
  obtain ⟨vs, rfl, h⟩ := h
  rcases vs with _ | ⟨a, _ | ⟨b, _ | ⟨c, vs⟩⟩⟩
  · exact h.elim
  · exact h.2.elim
  · obtain ⟨h1, ⟨A, l, c, h2, h3, h4, h5⟩, _⟩ := h
    have h1 : a = .bool x.1 := h1
    subst h1 h2
    exact ⟨A, l, c, rfl, h3, h4, h5⟩
  · exact h.2.2.elim
theorem lent_le (x : Raw) : ArLe (aLent x) (aNum x) := fun _ _ _ _ h => ok_of_rawV (ok_lentV h).raw
theorem ct_LentInt (x : Raw) (hl : x.2.length ≤ 1099511627776) : Ct Tryz.prog 12 [aNum x] (aLent x) :=
  ct1 Tryz.func12 rfl rfl rfl fun w u h => (kit_lentInt u x w h hl).mono (by rintro e w' ⟨v, rfl, h1, hb⟩; exact ⟨v, rfl, fun G β => lentV_ok h1, hb⟩)
theorem ct_KeptInt (x : Raw) (hl : x.2.length ≤ 1099511627776) : Ct Tryz.prog 17 [aLent x, aNum x] (.val (aB true)) where
  enters := fun vals w => enters_of Tryz.func17 rfl rfl vals w
  nop := rfl
  calls := by
    intro G β w vals _ ha
    rcases vals with _ | ⟨u, _ | ⟨v, _ | ⟨t, vs⟩⟩⟩
    · exact ha.elim
    · exact ha.2.elim
    · obtain ⟨hu, hv, _⟩ := ha
      refine (kit_keptInt u v x w (ok_lentV hu) (rawV_of_ok hv) hl).mono ?_
      rintro e w' ⟨rfl, h2⟩
      exact ⟨_, rfl, rfl, h2⟩
    · exact ha.2.2.elim
end Go.Proofs.YtonbhpadoplpkaaGreat
