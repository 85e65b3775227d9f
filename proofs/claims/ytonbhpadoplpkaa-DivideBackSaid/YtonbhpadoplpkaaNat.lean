import Derived.Test.YtonbhpadoplpkaaMem
import Derived.Deep.DeepCutAuto
import Derived.Test.YtonbhpadoplpkaaBits
/- The contracts of package big's sizes (nat.go): what each leaves in memory, in plain numbers. -/
namespace Go.Proofs.Ytonbhpadoplpkaa
open Go.RowKit Go.Deep

/-! ### trim -/
set_option maxHeartbeats 400000 in
theorem big_trim (A : Option Addr) (c : Nat) (xs : List Nat) (w : World) {B : Nat} (h : Lim w B A xs) (_hc : xs.length ≤ c) (_hl : xs.length ≤ 35184372088832) :
    Calls Try.prog 107 #[.slice A xs.length c] w fun e w' => e = .returned (.slice A (limbs (val xs)).length c) ∧ w = w' := by
  rw [← trimL_eq h.small]
  go_enter Try.func107, Try.ntmps107
  go_wp2
  go_loop [0] (fun v => ∃ n : Nat, n ≤ xs.length ∧ v = .slice A n c ∧ trimL (xs.take n) = trimL xs) (fun v => match v with | .slice _ n _ => n | _ => 0)
  case atStart => exact ⟨xs.length, Nat.le_refl _, rfl, by simp⟩
  case round =>
    obtain ⟨n, hn, rfl, ht⟩ := hrel
    have HT := Lib.hid ht
    clear ht
    rcases n with _ | n
    · go_wp2
      go_ret
      exact ⟨by rw [← HT.out]; rfl, rfl⟩
    · obtain ⟨ad, rfl, hb, hcell⟩ := h.at_ (k := n) (by omega)
      generalize hx : xs.getD n 0 = x at *
      have HX := Lib.hid hx
      clear hx
      go_wp2
      · have hx : ((x : Int) == 0) = true := by assumption
        simp only [beq_iff_eq] at hx
        refine ⟨⟨n, by omega, rfl, ?_⟩, by simp⟩
        rw [← HT.out, trimL_zero xs n (by omega) (by have := HX.out; omega)]
      · have hx : ((x : Int) == 0) = false := by assumption
        simp only [beq_eq_false_iff_ne] at hx
        go_ret
        have e : (trimL xs).length = n + 1 := by
          rw [← HT.out, trimL_pos xs n (by omega) (by have := HX.out; omega), List.length_take]; omega
        exact ⟨by rw [e]; rfl, rfl⟩
theorem Lim.trim {w : World} {B : Nat} {A : Option Addr} {xs : List Nat} (h : Lim w B A xs) : Lim w B A (limbs (val xs)) := by
  rw [← trimL_eq h.small, trimL_prefix]
  exact h.take _
theorem limbs_val_le {xs : List Nat} (h : Small xs) : (limbs (val xs)).length ≤ xs.length := lc_val h

/-! ### compare -/
set_option maxHeartbeats 400000 in
theorem big_compare (A1 A2 : Option Addr) (c1 c2 m n : Nat) (w : World) {B : Nat} (h1 : Lim w B A1 (limbs m)) (h2 : Lim w B A2 (limbs n)) (_hl : (limbs m).length ≤ 35184372088832) (_hl2 : (limbs n).length ≤ 35184372088832) :
    Calls Try.prog 105 #[.slice A1 (limbs m).length c1, .slice A2 (limbs n).length c2] w fun e w' => e = .returned (.int .i64 (cmpN m n)) ∧ ∃ q, w' = w.drewN q := by
  have hm : val (limbs m) = m := val_limbs m
  have hn : val (limbs n) = n := val_limbs n
  have hlc1 : lc m = (limbs m).length := rfl
  have hlc2 : lc n = (limbs n).length := rfl
  generalize limbs m = xs at *
  generalize limbs n = ys at *
  rcases Nat.lt_trichotomy xs.length ys.length with hlt | heq | hgt
  · have HE := Lib.hid (cmpN_lt (lc_lt (show lc m < lc n by rw [hlc1, hlc2]; exact hlt)))
    clear hm hn hlc1 hlc2
    go_enter Try.func105, Try.ntmps105
    go_wp2
    go_ret
    exact ⟨by rw [HE.out]; rfl, 0, rfl⟩
  · clear hlc1 hlc2
    have HM := Lib.hid hm
    have HN := Lib.hid hn
    have HQ := Lib.hid heq
    have hq1 : decide (xs.length < ys.length) = false := by simp [heq]
    have hq2 : decide (ys.length < xs.length) = false := by simp [heq]
    have hq3 : ys.length ≤ xs.length := by omega
    have hq4 : xs.length ≤ ys.length := by omega
    clear hm hn heq
    go_enter Try.func105, Try.ntmps105
    go_wp2
    go_loopw [5] (fun i wr => ∃ k : Nat, k ≤ xs.length ∧ i = .int .i64 ((k : Int) - 1) ∧ xs.drop k = ys.drop k ∧ ∃ q, wr = w.drewN q) (fun i _ => (intOf i + 1).toNat)
    case atStart => exact ⟨xs.length, Nat.le_refl _, rfl, by simp [HQ.out], 0, rfl⟩
    case round =>
      obtain ⟨k, hk, rfl, hd, q, rfl⟩ := hrel
      have HD := Lib.hid hd
      clear hd
      rcases k with _ | k
      · go_wp2
        go_ret
        refine ⟨?_, q, rfl⟩
        have e : xs = ys := by simpa using HD.out
        rw [cmpN_eq (show m = n by rw [← HM.out, ← HN.out, e])]; rfl
      · obtain ⟨ad, rfl, hb, hcell⟩ := h1.at_ (k := k) (by omega)
        obtain ⟨ad2, rfl, hb2, hcell2⟩ := h2.at_ (k := k) (by omega)
        obtain ⟨x, hx⟩ : ∃ x, xs.getD k 0 = x := ⟨_, rfl⟩
        obtain ⟨y, hy⟩ : ∃ y, ys.getD k 0 = y := ⟨_, rfl⟩
        rw [hx] at hcell
        rw [hy] at hcell2
        have HX := Lib.hid hx
        have HY := Lib.hid hy
        clear hx hy
        have e1 : ((k + 1 : Nat) : Int) - 1 = (k : Int) := by omega
        rw [e1]
        clear e1
        have b0 : (0 : Int) ≤ (k : Int) := by omega
        have b1 : (k : Int) < (xs.length : Int) := by omega
        have b2 : (k : Int) < (ys.length : Int) := by omega
        rcases Nat.lt_trichotomy x y with hxy | hxy | hxy
        · have t1 : ((x : Int) != (y : Int)) = true := by rw [bne_iff_ne]; omega
          have HE := Lib.hid (cmpN_lt (show m < n by rw [← HM.out, ← HN.out]; exact val_lt_top h1.small h2.small HQ.out (by omega) HD.out (by rw [HX.out, HY.out]; exact hxy)))
          go_wp2
          go_quiet (fail)
          go_wp2
          go_quiet (fail)
          go_wp2
          go_ret
          exact ⟨by rw [HE.out]; rfl, by rw [World.drewN_drewN, World.drewN_drewN]; exact ⟨_, rfl⟩⟩
        · have t1 : ((x : Int) != (y : Int)) = false := by rw [bne_eq_false_iff_eq]; omega
          go_wp2
          go_quiet (fail)
          go_wp2
          refine ⟨⟨k, by omega, rfl, drop_same HQ.out (by omega) HD.out (by rw [HX.out, HY.out]; exact hxy), _, rfl⟩, by simp [intOf]⟩
        · have t1 : ((x : Int) != (y : Int)) = true := by rw [bne_iff_ne]; omega
          have HE := Lib.hid (cmpN_gt (show n < m by rw [← HM.out, ← HN.out]; exact val_lt_top h2.small h1.small HQ.out.symm (by omega) HD.out.symm (by rw [HX.out, HY.out]; exact hxy)))
          go_wp2
          go_quiet (fail)
          go_wp2
          go_quiet (fail)
          go_wp2
          go_ret
          exact ⟨by rw [HE.out]; rfl, by rw [World.drewN_drewN, World.drewN_drewN]; exact ⟨_, rfl⟩⟩
  · have HE := Lib.hid (cmpN_gt (lc_lt (show lc n < lc m by rw [hlc1, hlc2]; exact hgt)))
    clear hm hn hlc1 hlc2
    go_enter Try.func105, Try.ntmps105
    go_wp2
    go_ret
    exact ⟨by rw [HE.out]; rfl, 0, rfl⟩
/-! ### plus, less -/
end Go.Proofs.Ytonbhpadoplpkaa
/- The contracts of package big's sizes (nat.go), on: products. -/
namespace Go.Proofs.Ytonbhpadoplpkaa
open Go.RowKit Go.Deep

theorem limb_mul_bound {x y o c s d : Nat} (hx : x < W64) (hy : y < W64) (ho : o < W64) (hc : c < W64) (h : s + W64 * d = x * y + o + c) : d < W64 := by
  have hp := W64_ge
  rcases Nat.lt_or_ge d W64 with hd | hd
  · exact hd
  · exfalso
    have h1 : x * y ≤ (W64 - 1) * (W64 - 1) := Nat.mul_le_mul (by omega) (by omega)
    have h2 : W64 * W64 ≤ W64 * d := Nat.mul_le_mul_left _ hd
    have h3 : (W64 - 1) * (W64 - 1) + 2 * (W64 - 1) + 1 = W64 * W64 := by
      obtain ⟨v, hv⟩ : ∃ v, W64 = v + 1 := ⟨W64 - 1, by omega⟩
      rw [hv]; simp only [Nat.add_sub_cancel]; grind
    omega

theorem times_step {lo hi o s1 c1 s c2 carry x y : Nat} (h1 : lo + W64 * hi = x * y) (h2 : s1 + W64 * c1 = lo + o + 0) (h3 : s + W64 * c2 = s1 + carry + 0) : s + W64 * (hi + c1 + c2) = x * y + o + carry := by
  rw [Nat.mul_add, Nat.mul_add]; omega

end Go.Proofs.Ytonbhpadoplpkaa
