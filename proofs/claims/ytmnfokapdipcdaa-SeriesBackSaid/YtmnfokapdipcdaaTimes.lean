import Derived.Test.YtmnfokapdipcdaaLimb4
import Derived.Test.YtmnfokapdipcdaaNat2
/- The package times: trim, school. -/
namespace Go.Proofs.Ytmnfokapdipcdaa
open Go.RowKit Go.Deep
set_option maxHeartbeats 400000 in
theorem times_trim (A : Option Addr) (c : Nat) (xs : List Nat) (w : World) {B : Nat} (h : Lim w B A xs) (_hc : xs.length ≤ c) (_hl : xs.length ≤ 35184372088832) :
    Calls Try.prog 165 #[.slice A xs.length c] w fun e w' => e = .returned (.slice A (limbs (val xs)).length c) ∧ w = w' := by
  rw [← trimL_eq h.small]
  go_enter Try.func165, Try.ntmps165
  go_wp2
  go_loop [0] (fun v => ∃ n : Nat, n ≤ xs.length ∧ v = .slice A n c ∧ trimL (xs.take n) = trimL xs) (fun v => match v with | .slice _ n _ => n | _ => 0)
  case atStart => exact ⟨xs.length, Nat.le_refl _, rfl, by simp⟩
  case round =>
    obtain ⟨n, hn, rfl, ht⟩ := hrel
    have HT := Lib.hid ht
    clear ht
    rcases n with _ | n
    · go_wp2
      go_ret
      exact ⟨by rw [← HT.out]; rfl, rfl⟩
    · obtain ⟨ad, rfl, hb, hcell⟩ := h.at_ (k := n) (by omega)
      generalize hx : xs.getD n 0 = x at *
      have HX := Lib.hid hx
      clear hx
      go_wp2
      · have hx : ((x : Int) == 0) = true := by assumption
        simp only [beq_iff_eq] at hx
        refine ⟨⟨n, by omega, rfl, ?_⟩, by simp⟩
        rw [← HT.out, trimL_zero xs n (by omega) (by have := HX.out; omega)]
      · have hx : ((x : Int) == 0) = false := by assumption
        simp only [beq_eq_false_iff_ne] at hx
        go_ret
        have e : (trimL xs).length = n + 1 := by
          rw [← HT.out, trimL_pos xs n (by omega) (by have := HX.out; omega), List.length_take]; omega
        exact ⟨by rw [e]; rfl, rfl⟩
theorem school_step {lo hi o s1 c1 s c2 carry x y : Nat} (h1 : lo + W64 * hi = x * y) (h2 : s1 + W64 * c1 = lo + carry + 0) (h3 : s + W64 * c2 = o + s1 + 0) : s + W64 * (hi + c1 + c2) = x * y + o + carry := by
  rw [Nat.mul_add, Nat.mul_add]; omega
set_option maxHeartbeats 1600000 in
set_option maxRecDepth 100000 in
theorem times_school (A1 A2 : Option Addr) (l1 l2 c1 c2 : Nat) (xs ys : List Nat) (w : World) (h1 : Lim w w.heap.size A1 xs) (h2 : Lim w w.heap.size A2 ys) (e1 : l1 = xs.length) (e2 : l2 = ys.length) (hl : l1 + l2 ≤ 1099511627776) :
    Calls Try.prog 158 #[.slice A1 l1 c1, .slice A2 l2 c2] w fun e w' => ∃ A c, e = .returned (.slice A (limbs (val xs * val ys)).length c) ∧ (limbs (val xs * val ys)).length ≤ c ∧ Lim w' w'.heap.size A (limbs (val xs * val ys)) ∧ Fresh w' w.heap.size A c ∧ Below w.heap.size w w' := by
  have hmk := make_limbs (l1 + l2) (by omega)
  rw [Int.natCast_add] at hmk
  have E1 := Lib.hid e1
  have E2 := Lib.hid e2
  clear e1 e2
  go_enter Try.func158, Try.ntmps158
  go_wp2_with fail
  go_loopw [20] (fun t31 wr => ∃ (i : Nat) (os : List Nat), i ≤ l1 ∧ os.length = l1 + l2 ∧ t31 = .int .i64 (i : Int) ∧ Row wr w.heap.size os ∧ Fresh wr w.heap.size (some ⟨w.heap.size, 0, none⟩) (l1 + l2) ∧ Below w.heap.size w wr ∧ val (os.take (i + l2)) = val (xs.take i) * val ys) (fun t31 _ => l1 - (intOf t31).toNat)
  case atStart =>
    refine ⟨0, List.replicate (l1 + l2) 0, by omega, by simp, rfl, Row.made _ _, Fresh.made _ _, (Below.refl _ _).alloc (Nat.le_refl _) _, ?_⟩
    rw [List.take_replicate, val_zeros]; simp
  case round =>
    obtain ⟨i, os0, hi, ho0, rfl, hrow0, hfr0, hbel0, hval0⟩ := hrel
    have HV0 := Lib.hid hval0
    have HO0 := Lib.hid ho0
    have HF0 := Lib.hid hfr0
    clear hval0 ho0 hfr0
    by_cases hlt : i < l1
    · obtain ⟨x, hx⟩ : ∃ x, xs.getD i 0 = x := ⟨_, rfl⟩
      have hxs : x < W64 := hx ▸ h1.small.getD i
      have HX := Lib.hid hx
      have hltI : (i : Int) < (l1 : Int) := by omega
      clear hx
      go_wp2_with fail
      obtain ⟨wo, hwo⟩ : ∃ wo : World, wo = wr := ⟨_, rfl⟩
      subst hwo
      go_loopw [7, 25] (fun t8 t38 wr => ∃ (k c : Nat) (os : List Nat), k ≤ l2 ∧ c < W64 ∧ os.length = l1 + l2 ∧ t8 = .int .u64 (c : Int) ∧ t38 = .int .i64 (k : Int) ∧ Row wr w.heap.size os ∧ Fresh wr w.heap.size (some ⟨w.heap.size, 0, none⟩) (l1 + l2) ∧ Below w.heap.size w wr ∧ os.drop (i + k) = os0.drop (i + k) ∧ val (os.take (i + k)) + W64 ^ (i + k) * c = val (os0.take (i + k)) + W64 ^ i * (x * val (ys.take k))) (fun _ t38 _ => l2 - (intOf t38).toNat)
      case atStart => exact ⟨0, 0, os0, by omega, W64_pos, HO0.out, rfl, rfl, hrow0, HF0.out, hbel0, rfl, by simp⟩
      case round =>
        clear hrow0 hbel0
        obtain ⟨k, c, os, hk, hc, ho, rfl, rfl, hrow, hfr, hbel, hdrop, hval⟩ := hrel
        have HV := Lib.hid hval
        have HO := Lib.hid ho
        have HD := Lib.hid hdrop
        have HF := Lib.hid hfr
        clear hval ho hdrop hfr
        by_cases hlk : k < l2
        · obtain ⟨ad, hA1, hb, hcell⟩ := (h1.below hbel).at_ (k := i) (by rw [← E1.out]; exact hlt)
          subst hA1
          rw [HX.out] at hcell
          obtain ⟨ad2, hA2, hb2, hcell2⟩ := (h2.below hbel).at_ (k := k) (by rw [← E2.out]; exact hlk)
          subst hA2
          obtain ⟨y, hy⟩ : ∃ y, ys.getD k 0 = y := ⟨_, rfl⟩
          have hys : y < W64 := hy ▸ h2.small.getD k
          rw [hy] at hcell2
          have hcg := hrow.cell (k := i + k) (by rw [HO.out]; omega)
          have hfg := hrow.free (i + k)
          obtain ⟨o, hoo⟩ : ∃ o, os.getD (i + k) 0 = o := ⟨_, rfl⟩
          have hos : o < W64 := hoo ▸ hrow.small.getD (i + k)
          rw [hoo] at hcg
          have hstep := school_step (mul_split x y) (add_split (mulLo x y) c 0) (add_split o (addLo (mulLo x y) c 0) 0)
          have hbd := limb_mul_bound hxs hys hos hc hstep
          have hstep2 : val ((os.set (i + k) (addLo o (addLo (mulLo x y) c 0) 0)).take (i + (k + 1))) + W64 ^ (i + (k + 1)) * (mulHi x y + addHi (mulLo x y) c 0 + addHi o (addLo (mulLo x y) c 0) 0) = val (os0.take (i + (k + 1))) + W64 ^ i * (x * val (ys.take (k + 1))) := by
            have hV := HV.out
            have ho2 : os0.getD (i + k) 0 = o := by
              have := congrArg (fun l => l.getD 0 0) HD.out
              rw [← hoo]; simpa using this.symm
            rw [← Nat.add_assoc, val_take_set os _ _ (by rw [HO.out]; omega), val_take_step os0, val_take_step ys, hy, ho2, Nat.pow_succ]
            rw [Nat.pow_add] at hV ⊢
            generalize val (os.take (i + k)) = a1 at *
            generalize val (os0.take (i + k)) = a2 at *
            generalize val (ys.take k) = a3 at *
            generalize W64 ^ i = P at *
            generalize W64 ^ k = Q at *
            generalize addLo o (addLo (mulLo x y) c 0) 0 = s at *
            generalize mulHi x y + addHi (mulLo x y) c 0 + addHi o (addLo (mulLo x y) c 0) 0 = d at *
            have : P * Q * (s + W64 * d) = P * Q * (x * y + o + c) := by rw [hstep]
            grind
          have hb1 := lt_W64 (x := mulHi x y + addHi (mulLo x y) c 0) (by omega)
          have hb2 := lt_W64 hbd
          rw [Int.natCast_add] at hb1 hb2
          rw [Int.natCast_add] at hb2
          have HROW := Lib.hid hrow
          have HBEL := Lib.hid hbel
          have HL := Lib.hid (show (os.set (i + k) (addLo o (addLo (mulLo x y) c 0) 0)).length = l1 + l2 by rw [List.length_set, HO.out])
          have HDD := Lib.hid (show (os.set (i + k) (addLo o (addLo (mulLo x y) c 0) 0)).drop (i + (k + 1)) = os0.drop (i + (k + 1)) by
            rw [List.drop_set_of_lt (by omega)]
            have := congrArg (List.drop 1) HD.out
            simpa [Nat.add_assoc] using this)
          have HS := Lib.hid hstep2
          have HY := Lib.hid hy
          have HOO := Lib.hid hoo
          have hm := fun n => quiet_left (bits_mul64 x y hxs hys (wr.drewN n))
          have HM := Lib.hid hm
          have r1 := later_cell hcell
          clear hstep2 hstep hy hoo hm hrow hbel
          have ha1 := add64_run0 (mulLo x y) c
          have ha2 := add64_run0 o (addLo (mulLo x y) c 0)
          have hklI : (k : Int) < (l2 : Int) := by omega
          go_wp2_with fail
          go_quiet ((go_at_call 150; exact quiet_left (bits_mul64 x y hxs hys _)))
          have hrow2 := HROW.out.drewN nq
          have hbel2 := below_drewN HBEL.out nq
          have hfr2 : Fresh (wr.drewN nq) w.heap.size (some ⟨w.heap.size, 0, none⟩) (l1 + l2) := HF.out
          have hcg2 : (wr.drewN nq).cell? ⟨w.heap.size, i + k, none⟩ = some (.int .u64 (o : Int)) := hcg
          have hfg2 : (wr.drewN nq).frozen? ⟨w.heap.size, i + k, none⟩ = false := hfg
          generalize wr.drewN nq = w2 at hrow2 hbel2 hfr2 hcg2 hfg2 ⊢
          have hset := hrow2.set (k := i + k) (x := addLo o (addLo (mulLo x y) c 0) 0) (by rw [HO.out]; omega) (addLo_lt _ _ _)
          have hbel' := hbel2.setCell (p := ⟨w.heap.size, i + k, none⟩) (Nat.le_refl _) (.int .u64 (addLo o (addLo (mulLo x y) c 0) 0 : Int))
          have hfr' := hfr2.set w.heap.size (i + k) (.int .u64 (addLo o (addLo (mulLo x y) c 0) 0 : Int))
          have HSET := Lib.hid hset
          have HBL := Lib.hid hbel'
          have HFR := Lib.hid hfr'
          clear hset hbel' hfr' hrow2 hbel2 hfr2 hcg hfg r1
          go_wp2_with fail
          exact ⟨⟨k + 1, _, _, by omega, hbd, HL.out, by simp only [Int.natCast_add], by go_num, HSET.out, HFR.out, HBL.out, HDD.out, HS.out⟩, by simp [intOf]; omega⟩
        · obtain rfl : k = l2 := by omega
          have hcg := hrow.cell (k := i + k) (by rw [HO.out]; omega)
          have hfg := hrow.free (i + k)
          have hset := hrow.set (k := i + k) (x := c) (by rw [HO.out]; omega) hc
          have hbel' := hbel.setCell (p := ⟨w.heap.size, i + k, none⟩) (Nat.le_refl _) (.int .u64 (c : Int))
          have hfr' := HF.out.set w.heap.size (i + k) (.int .u64 (c : Int))
          have HL := Lib.hid (show (os.set (i + k) c).length = l1 + k by rw [List.length_set, HO.out])
          have HS := Lib.hid (show val ((os.set (i + k) c).take (i + 1 + k)) = val (xs.take (i + 1)) * val ys by
            have hV := HV.out
            have hV0 := HV0.out
            rw [show i + 1 + k = i + k + 1 by omega, val_take_set os _ _ (by rw [HO.out]; omega), hV, val_take_step xs, HX.out, List.take_of_length_le (l := ys) (by rw [← E2.out]; exact Nat.le_refl _), hV0, Nat.add_mul, Nat.mul_assoc])
          have hkkI : ¬ ((k : Int) < (k : Int)) := by omega
          go_wp2_with fail
          exact ⟨⟨i + 1, _, by omega, HL.out, by go_num, hset, hfr', hbel', HS.out⟩, by simp [intOf]; omega⟩
    · obtain rfl : i = l1 := by omega
      have HF := Lib.hid (show val os0 = val xs * val ys by
        have hV := HV0.out
        rwa [List.take_of_length_le (l := os0) (by rw [HO0.out]; exact Nat.le_refl _), List.take_of_length_le (l := xs) (by rw [← E1.out]; exact Nat.le_refl _)] at hV)
      go_wp2_with fail
      have hex : i + l2 = os0.length := HO0.out.symm
      rw [hex]
      refine (times_trim _ _ _ _ (hrow0.lim (B := w.heap.size + 1) (by omega)) (Nat.le_refl _) (by rw [HO0.out]; omega)).mono ?_
      rintro e w1 ⟨rfl, rfl⟩
      rw [HF.out]
      go_wp2_with fail
      go_ret
      have hl3 := limbs_val_le hrow0.small
      rw [HF.out] at hl3
      have hlim := (hrow0.lim (B := w.heap.size + 1) (by omega)).trim.more hrow0.lt
      rw [HF.out] at hlim
      exact ⟨_, _, rfl, hl3, hlim, by rw [← hex]; exact HF0.out, hbel0⟩
end Go.Proofs.Ytmnfokapdipcdaa
