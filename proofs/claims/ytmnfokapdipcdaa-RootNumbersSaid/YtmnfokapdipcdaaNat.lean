import Derived.Test.YtmnfokapdipcdaaMem
import Derived.Deep.DeepCutAuto
import Derived.Test.YtmnfokapdipcdaaBits
/- The contracts of package big's sizes (nat.go): what each leaves in memory, in plain numbers. -/
namespace Go.Proofs.Ytmnfokapdipcdaa
open Go.RowKit Go.Deep

/-! ### trim -/
set_option maxHeartbeats 400000 in
theorem big_trim (A : Option Addr) (c : Nat) (xs : List Nat) (w : World) {B : Nat} (h : Lim w B A xs) (_hc : xs.length ≤ c) (_hl : xs.length ≤ 35184372088832) :
    Calls Try.prog 146 #[.slice A xs.length c] w fun e w' => e = .returned (.slice A (limbs (val xs)).length c) ∧ w = w' := by
  rw [← trimL_eq h.small]
  go_enter Try.func146, Try.ntmps146
  go_wp2
  go_loop [0] (fun v => ∃ n : Nat, n ≤ xs.length ∧ v = .slice A n c ∧ trimL (xs.take n) = trimL xs) (fun v => match v with | .slice _ n _ => n | _ => 0)
  case atStart => exact ⟨xs.length, Nat.le_refl _, rfl, by simp⟩
  case round =>
    obtain ⟨n, hn, rfl, ht⟩ := hrel
    have HT := Lib.hid ht
    clear ht
    rcases n with _ | n
    · go_wp2
      go_ret
      exact ⟨by rw [← HT.out]; rfl, rfl⟩
    · obtain ⟨ad, rfl, hb, hcell⟩ := h.at_ (k := n) (by omega)
      generalize hx : xs.getD n 0 = x at *
      have HX := Lib.hid hx
      clear hx
      go_wp2
      · have hx : ((x : Int) == 0) = true := by assumption
        simp only [beq_iff_eq] at hx
        refine ⟨⟨n, by omega, rfl, ?_⟩, by simp⟩
        rw [← HT.out, trimL_zero xs n (by omega) (by have := HX.out; omega)]
      · have hx : ((x : Int) == 0) = false := by assumption
        simp only [beq_eq_false_iff_ne] at hx
        go_ret
        have e : (trimL xs).length = n + 1 := by
          rw [← HT.out, trimL_pos xs n (by omega) (by have := HX.out; omega), List.length_take]; omega
        exact ⟨by rw [e]; rfl, rfl⟩
theorem Lim.trim {w : World} {B : Nat} {A : Option Addr} {xs : List Nat} (h : Lim w B A xs) : Lim w B A (limbs (val xs)) := by
  rw [← trimL_eq h.small, trimL_prefix]
  exact h.take _
theorem limbs_val_le {xs : List Nat} (h : Small xs) : (limbs (val xs)).length ≤ xs.length := lc_val h

/-! ### compare -/
set_option maxHeartbeats 400000 in
theorem big_compare (A1 A2 : Option Addr) (c1 c2 m n : Nat) (w : World) {B : Nat} (h1 : Lim w B A1 (limbs m)) (h2 : Lim w B A2 (limbs n)) (_hl : (limbs m).length ≤ 35184372088832) (_hl2 : (limbs n).length ≤ 35184372088832) :
    Calls Try.prog 115 #[.slice A1 (limbs m).length c1, .slice A2 (limbs n).length c2] w fun e w' => e = .returned (.int .i64 (cmpN m n)) ∧ ∃ q, w' = w.drewN q := by
  have hm : val (limbs m) = m := val_limbs m
  have hn : val (limbs n) = n := val_limbs n
  have hlc1 : lc m = (limbs m).length := rfl
  have hlc2 : lc n = (limbs n).length := rfl
  generalize limbs m = xs at *
  generalize limbs n = ys at *
  rcases Nat.lt_trichotomy xs.length ys.length with hlt | heq | hgt
  · have HE := Lib.hid (cmpN_lt (lc_lt (show lc m < lc n by rw [hlc1, hlc2]; exact hlt)))
    clear hm hn hlc1 hlc2
    go_enter Try.func115, Try.ntmps115
    go_wp2
    go_ret
    exact ⟨by rw [HE.out]; rfl, 0, rfl⟩
  · clear hlc1 hlc2
    have HM := Lib.hid hm
    have HN := Lib.hid hn
    have HQ := Lib.hid heq
    have hq1 : decide (xs.length < ys.length) = false := by simp [heq]
    have hq2 : decide (ys.length < xs.length) = false := by simp [heq]
    have hq3 : ys.length ≤ xs.length := by omega
    have hq4 : xs.length ≤ ys.length := by omega
    clear hm hn heq
    go_enter Try.func115, Try.ntmps115
    go_wp2
    go_loopw [5] (fun i wr => ∃ k : Nat, k ≤ xs.length ∧ i = .int .i64 ((k : Int) - 1) ∧ xs.drop k = ys.drop k ∧ ∃ q, wr = w.drewN q) (fun i _ => (intOf i + 1).toNat)
    case atStart => exact ⟨xs.length, Nat.le_refl _, rfl, by simp [HQ.out], 0, rfl⟩
    case round =>
      obtain ⟨k, hk, rfl, hd, q, rfl⟩ := hrel
      have HD := Lib.hid hd
      clear hd
      rcases k with _ | k
      · go_wp2
        go_ret
        refine ⟨?_, q, rfl⟩
        have e : xs = ys := by simpa using HD.out
        rw [cmpN_eq (show m = n by rw [← HM.out, ← HN.out, e])]; rfl
      · obtain ⟨ad, rfl, hb, hcell⟩ := h1.at_ (k := k) (by omega)
        obtain ⟨ad2, rfl, hb2, hcell2⟩ := h2.at_ (k := k) (by omega)
        obtain ⟨x, hx⟩ : ∃ x, xs.getD k 0 = x := ⟨_, rfl⟩
        obtain ⟨y, hy⟩ : ∃ y, ys.getD k 0 = y := ⟨_, rfl⟩
        rw [hx] at hcell
        rw [hy] at hcell2
        have HX := Lib.hid hx
        have HY := Lib.hid hy
        clear hx hy
        have e1 : ((k + 1 : Nat) : Int) - 1 = (k : Int) := by omega
        rw [e1]
        clear e1
        have b0 : (0 : Int) ≤ (k : Int) := by omega
        have b1 : (k : Int) < (xs.length : Int) := by omega
        have b2 : (k : Int) < (ys.length : Int) := by omega
        rcases Nat.lt_trichotomy x y with hxy | hxy | hxy
        · have t1 : ((x : Int) != (y : Int)) = true := by rw [bne_iff_ne]; omega
          have HE := Lib.hid (cmpN_lt (show m < n by rw [← HM.out, ← HN.out]; exact val_lt_top h1.small h2.small HQ.out (by omega) HD.out (by rw [HX.out, HY.out]; exact hxy)))
          go_wp2
          go_quiet (fail)
          go_wp2
          go_quiet (fail)
          go_wp2
          go_ret
          exact ⟨by rw [HE.out]; rfl, by rw [World.drewN_drewN, World.drewN_drewN]; exact ⟨_, rfl⟩⟩
        · have t1 : ((x : Int) != (y : Int)) = false := by rw [bne_eq_false_iff_eq]; omega
          go_wp2
          go_quiet (fail)
          go_wp2
          refine ⟨⟨k, by omega, rfl, drop_same HQ.out (by omega) HD.out (by rw [HX.out, HY.out]; exact hxy), _, rfl⟩, by simp [intOf]⟩
        · have t1 : ((x : Int) != (y : Int)) = true := by rw [bne_iff_ne]; omega
          have HE := Lib.hid (cmpN_gt (show n < m by rw [← HM.out, ← HN.out]; exact val_lt_top h2.small h1.small HQ.out.symm (by omega) HD.out.symm (by rw [HX.out, HY.out]; exact hxy)))
          go_wp2
          go_quiet (fail)
          go_wp2
          go_quiet (fail)
          go_wp2
          go_ret
          exact ⟨by rw [HE.out]; rfl, by rw [World.drewN_drewN, World.drewN_drewN]; exact ⟨_, rfl⟩⟩
  · have HE := Lib.hid (cmpN_gt (lc_lt (show lc n < lc m by rw [hlc1, hlc2]; exact hgt)))
    clear hm hn hlc1 hlc2
    go_enter Try.func115, Try.ntmps115
    go_wp2
    go_ret
    exact ⟨by rw [HE.out]; rfl, 0, rfl⟩

/-! ### plus, less -/
set_option maxHeartbeats 800000 in
set_option maxRecDepth 100000 in
theorem big_plus (A1 A2 : Option Addr) (c1 c2 : Nat) (xs ys : List Nat) (w : World) {B : Nat} (hB : B ≤ w.heap.size) (h1 : Lim w B A1 xs) (h2 : Lim w B A2 ys) (hl : xs.length ≤ 1099511627776) (hl2 : ys.length ≤ 1099511627776) :
    Calls Try.prog 114 #[.slice A1 xs.length c1, .slice A2 ys.length c2] w fun e w' => ∃ A c, e = .returned (.slice A (limbs (val xs + val ys)).length c) ∧ (limbs (val xs + val ys)).length ≤ c ∧ Lim w' w'.heap.size A (limbs (val xs + val ys)) ∧ Below w.heap.size w w' := by
  go_enter Try.func114, Try.ntmps114
  go_upto_if 14 with (fail)
  go_cut [0, 1] (fun s0 s1 wx => w = wx ∧ ∃ (A1' A2' : Option Addr) (c1' c2' : Nat) (xs' ys' : List Nat), s0 = .slice A1' xs'.length c1' ∧ s1 = .slice A2' ys'.length c2' ∧ Lim w B A1' xs' ∧ Lim w B A2' ys' ∧ xs'.length ≤ 1099511627776 ∧ ys'.length ≤ xs'.length ∧ val xs' + val ys' = val xs + val ys)
  case first =>
    by_cases hge : xs.length < ys.length
    · go_wp2_with fail
      go_meet
      exact ⟨rfl, A2, A1, c2, c1, ys, xs, rfl, rfl, h2, h1, hl2, by omega, by omega⟩
    · go_wp2_with fail
      go_meet
      exact ⟨rfl, A1, A2, c1, c2, xs, ys, rfl, rfl, h1, h2, hl, by omega, rfl⟩
  case rest =>
  obtain ⟨rfl, A1, A2, c1, c2, xs, ys, rfl, rfl, h1, h2, hl, hge, hsum⟩ := hcut
  have HSUM := Lib.hid hsum
  clear hsum
  have hmk := make_limbs_succ xs.length (by omega)
  go_wp2_with fail
  go_loopw [6, 23] (fun t6 t23 wr => ∃ (k c : Nat) (os : List Nat), k ≤ xs.length ∧ c ≤ 1 ∧ os.length = xs.length + 1 ∧ t6 = .int .u64 (c : Int) ∧ t23 = .int .i64 (k : Int) ∧ Row wr w.heap.size os ∧ Below w.heap.size w wr ∧ val (os.take k) + W64 ^ k * c = val (xs.take k) + val (ys.take k)) (fun _ t23 _ => xs.length - (intOf t23).toNat)
  case atStart =>
    refine ⟨0, 0, List.replicate (xs.length + 1) 0, by omega, by omega, by simp, rfl, rfl, Row.made _ _, (Below.refl _ _).alloc (Nat.le_refl _) _, by simp⟩
  case round =>
    obtain ⟨k, c, os, hk, hc, ho, rfl, rfl, hrow, hbel, hval⟩ := hrel
    have HV := Lib.hid hval
    have HO := Lib.hid ho
    clear hval ho
    by_cases hlt : k < xs.length
    · obtain ⟨ad, rfl, hb, hcell⟩ := (h1.below (hbel.mono hB)).at_ hlt
      obtain ⟨x, hx⟩ : ∃ x, xs.getD k 0 = x := ⟨_, rfl⟩
      obtain ⟨y, hy⟩ : ∃ y, ys.getD k 0 = y := ⟨_, rfl⟩
      have hxs : x < W64 := hx ▸ h1.small.getD k
      have hys : y < W64 := hy ▸ h2.small.getD k
      rw [hx] at hcell
      have hcg := hrow.cell (k := k) (by rw [HO.out]; omega)
      have hfg := hrow.free k
      have hstep : val ((os.set k (addLo x y c)).take (k + 1)) + W64 ^ (k + 1) * addHi x y c = val (xs.take (k + 1)) + val (ys.take (k + 1)) := by
        have hV := HV.out
        have hs := add_split x y c
        rw [val_take_set os k _ (by rw [HO.out]; omega), val_take_step xs, val_take_step ys, hx, hy, Nat.pow_succ]
        generalize val (os.take k) = a1 at *
        generalize val (xs.take k) = a2 at *
        generalize val (ys.take k) = a3 at *
        generalize W64 ^ k = P at *
        have : P * (addLo x y c + W64 * addHi x y c) = P * (x + y + c) := by rw [hs]
        grind
      have HS := Lib.hid hstep
      have HX := Lib.hid hx
      have hset := hrow.set (k := k) (x := addLo x y c) (by rw [HO.out]; omega) (addLo_lt _ _ _)
      have hc' := addHi_le hxs hys hc
      have hbel' := hbel.setCell (p := ⟨w.heap.size, k, none⟩) (Nat.le_refl _) (.int .u64 (addLo x y c : Int))
      have hlen : (os.set k (addLo x y c)).length = xs.length + 1 := by rw [List.length_set, HO.out]
      have HL := Lib.hid hlen
      clear hstep hx hlen
      by_cases hly : k < ys.length
      · obtain ⟨ad2, rfl, hb2, hcell2⟩ := (h2.below (hbel.mono hB)).at_ hly
        rw [hy] at hcell2
        have HY := Lib.hid hy
        clear hy
        have hadd := add64_run x y c hc
        go_wp2_with fail
        exact ⟨⟨k + 1, _, os.set k (addLo x y c), by omega, hc', HL.out, rfl, by go_num, hset, hbel', HS.out⟩, by simp [intOf]; omega⟩
      · have hy0 : y = 0 := by rw [← hy]; simp [show ys.length ≤ k by omega]
        subst hy0
        have HY := Lib.hid hy
        clear hy
        have hadd := add64_run x 0 c hc
        rw [Int.natCast_zero] at hadd
        go_wp2_with fail
        exact ⟨⟨k + 1, _, os.set k (addLo x 0 c), by omega, hc', HL.out, rfl, by go_num, hset, hbel', HS.out⟩, by simp [intOf]; omega⟩
    · obtain rfl : k = xs.length := by omega
      have hcg := hrow.cell (k := xs.length) (by rw [HO.out]; omega)
      have hfg := hrow.free xs.length
      have hcW : c < W64 := by have := W64_ge; omega
      have hset := hrow.set (k := xs.length) (x := c) (by rw [HO.out]; omega) hcW
      have hfin : val (os.set xs.length c) = val xs + val ys := by
        have hV := HV.out
        rw [List.take_length, List.take_of_length_le hge] at hV
        have e := val_take_set os xs.length c (by rw [HO.out]; omega)
        rw [List.take_of_length_le (by rw [List.length_set, HO.out]; omega)] at e
        rw [e]; exact hV
      have hlen : (os.set xs.length c).length = xs.length + 1 := by rw [List.length_set, HO.out]
      have HL := Lib.hid hlen
      have HF := Lib.hid hfin
      have hbel' := hbel.setCell (p := ⟨w.heap.size, xs.length, none⟩) (Nat.le_refl _) (.int .u64 (c : Int))
      clear hfin hlen
      go_wp2_with fail
      rw [← HL.out]
      refine (big_trim _ _ _ _ (hset.lim (B := w.heap.size + 1) (by omega)) (Nat.le_refl _) (by rw [HL.out]; omega)).mono ?_
      rintro e w1 ⟨rfl, rfl⟩
      rw [HF.out]
      go_wp2_with fail
      go_ret
      have hl3 := limbs_val_le hset.small
      rw [HF.out, List.length_set] at hl3
      have hlim := (hset.lim (B := w.heap.size + 1) (by omega)).trim.more hset.lt
      rw [HF.out] at hlim
      rw [← HSUM.out]
      exact ⟨_, _, rfl, hl3, hlim, hbel'⟩

set_option maxHeartbeats 800000 in
set_option maxRecDepth 100000 in
theorem big_less (A1 A2 : Option Addr) (c1 c2 : Nat) (xs ys : List Nat) (w : World) {B : Nat} (hB : B ≤ w.heap.size) (h1 : Lim w B A1 xs) (h2 : Lim w B A2 ys) (hl : xs.length ≤ 1099511627776) (hge : ys.length ≤ xs.length) (hv : val ys ≤ val xs) :
    Calls Try.prog 116 #[.slice A1 xs.length c1, .slice A2 ys.length c2] w fun e w' => ∃ A c, e = .returned (.slice A (limbs (val xs - val ys)).length c) ∧ (limbs (val xs - val ys)).length ≤ c ∧ Lim w' w'.heap.size A (limbs (val xs - val ys)) ∧ Below w.heap.size w w' := by
  have hmk := make_limbs xs.length (by omega)
  go_enter Try.func116, Try.ntmps116
  go_wp2_with fail
  go_loopw [6, 15] (fun t6 t15 wr => ∃ (k c : Nat) (os : List Nat), k ≤ xs.length ∧ c ≤ 1 ∧ os.length = xs.length ∧ t6 = .int .u64 (c : Int) ∧ t15 = .int .i64 (k : Int) ∧ Row wr w.heap.size os ∧ Below w.heap.size w wr ∧ val (os.take k) + val (ys.take k) = val (xs.take k) + W64 ^ k * c) (fun _ t15 _ => xs.length - (intOf t15).toNat)
  case atStart =>
    refine ⟨0, 0, List.replicate xs.length 0, by omega, by omega, by simp, rfl, rfl, Row.made _ _, (Below.refl _ _).alloc (Nat.le_refl _) _, by simp⟩
  case round =>
    obtain ⟨k, c, os, hk, hc, ho, rfl, rfl, hrow, hbel, hval⟩ := hrel
    have HV := Lib.hid hval
    have HO := Lib.hid ho
    clear hval ho
    by_cases hlt : k < xs.length
    · obtain ⟨ad, rfl, hb, hcell⟩ := (h1.below (hbel.mono hB)).at_ hlt
      obtain ⟨x, hx⟩ : ∃ x, xs.getD k 0 = x := ⟨_, rfl⟩
      obtain ⟨y, hy⟩ : ∃ y, ys.getD k 0 = y := ⟨_, rfl⟩
      have hxs : x < W64 := hx ▸ h1.small.getD k
      have hys : y < W64 := hy ▸ h2.small.getD k
      rw [hx] at hcell
      have hcg := hrow.cell (k := k) (by rw [HO.out]; omega)
      have hfg := hrow.free k
      have hstep : val ((os.set k (subLo x y c)).take (k + 1)) + val (ys.take (k + 1)) = val (xs.take (k + 1)) + W64 ^ (k + 1) * subHi x y c := by
        have hV := HV.out
        have hs := sub_split hxs hys hc
        rw [val_take_set os k _ (by rw [HO.out]; omega), val_take_step xs, val_take_step ys, hx, hy, Nat.pow_succ]
        generalize val (os.take k) = a1 at *
        generalize val (xs.take k) = a2 at *
        generalize val (ys.take k) = a3 at *
        generalize W64 ^ k = P at *
        have : P * (subLo x y c + y + c) = P * (x + W64 * subHi x y c) := by rw [hs]
        grind
      have HS := Lib.hid hstep
      have HX := Lib.hid hx
      have hset := hrow.set (k := k) (x := subLo x y c) (by rw [HO.out]; omega) (subLo_lt _ _ _)
      have hc' := subHi_le x y c
      have hbel' := hbel.setCell (p := ⟨w.heap.size, k, none⟩) (Nat.le_refl _) (.int .u64 (subLo x y c : Int))
      have hlen : (os.set k (subLo x y c)).length = xs.length := by rw [List.length_set, HO.out]
      have HL := Lib.hid hlen
      clear hstep hx hlen
      by_cases hly : k < ys.length
      · obtain ⟨ad2, rfl, hb2, hcell2⟩ := (h2.below (hbel.mono hB)).at_ hly
        rw [hy] at hcell2
        have HY := Lib.hid hy
        clear hy
        have hadd := sub64_run x y c hc
        go_wp2_with fail
        exact ⟨⟨k + 1, _, os.set k (subLo x y c), by omega, hc', HL.out, rfl, by go_num, hset, hbel', HS.out⟩, by simp [intOf]; omega⟩
      · have hy0 : y = 0 := by rw [← hy]; simp [show ys.length ≤ k by omega]
        subst hy0
        have HY := Lib.hid hy
        clear hy
        have hadd := sub64_run x 0 c hc
        rw [Int.natCast_zero] at hadd
        go_wp2_with fail
        exact ⟨⟨k + 1, _, os.set k (subLo x 0 c), by omega, hc', HL.out, rfl, by go_num, hset, hbel', HS.out⟩, by simp [intOf]; omega⟩
    · obtain rfl : k = xs.length := by omega
      have hfin : val os = val xs - val ys := by
        have hV := HV.out
        rw [List.take_length, List.take_of_length_le hge, List.take_of_length_le (by rw [HO.out]; omega)] at hV
        have hlt := val_lt hrow.small
        rw [HO.out] at hlt
        have hc0 : c = 0 := by
          rcases Nat.eq_zero_or_pos c with h | h
          · exact h
          · obtain rfl : c = 1 := by omega
            omega
        subst hc0
        omega
      have HF := Lib.hid hfin
      clear hfin
      go_wp2_with fail
      rw [← HO.out]
      refine (big_trim _ _ _ _ (hrow.lim (B := w.heap.size + 1) (by omega)) (Nat.le_refl _) (by rw [HO.out]; omega)).mono ?_
      rintro e w1 ⟨rfl, rfl⟩
      rw [HF.out]
      go_wp2_with fail
      go_ret
      have hl3 := limbs_val_le hrow.small
      rw [HF.out] at hl3
      have hlim := (hrow.lim (B := w.heap.size + 1) (by omega)).trim.more hrow.lt
      rw [HF.out] at hlim
      exact ⟨_, _, rfl, hl3, hlim, hbel⟩

end Go.Proofs.Ytmnfokapdipcdaa
/- The contracts of package big's sizes (nat.go), on: products. -/
namespace Go.Proofs.Ytmnfokapdipcdaa
open Go.RowKit Go.Deep

theorem limb_mul_bound {x y o c s d : Nat} (hx : x < W64) (hy : y < W64) (ho : o < W64) (hc : c < W64) (h : s + W64 * d = x * y + o + c) : d < W64 := by
  have hp := W64_ge
  rcases Nat.lt_or_ge d W64 with hd | hd
  · exact hd
  · exfalso
    have h1 : x * y ≤ (W64 - 1) * (W64 - 1) := Nat.mul_le_mul (by omega) (by omega)
    have h2 : W64 * W64 ≤ W64 * d := Nat.mul_le_mul_left _ hd
    have h3 : (W64 - 1) * (W64 - 1) + 2 * (W64 - 1) + 1 = W64 * W64 := by
      obtain ⟨v, hv⟩ : ∃ v, W64 = v + 1 := ⟨W64 - 1, by omega⟩
      rw [hv]; simp only [Nat.add_sub_cancel]; grind
    omega

theorem times_step {lo hi o s1 c1 s c2 carry x y : Nat} (h1 : lo + W64 * hi = x * y) (h2 : s1 + W64 * c1 = lo + o + 0) (h3 : s + W64 * c2 = s1 + carry + 0) : s + W64 * (hi + c1 + c2) = x * y + o + carry := by
  rw [Nat.mul_add, Nat.mul_add]; omega

set_option maxHeartbeats 1600000 in
set_option maxRecDepth 100000 in
theorem big_times (A1 A2 : Option Addr) (c1 c2 : Nat) (xs ys : List Nat) (w : World) {B : Nat} (hB : B ≤ w.heap.size) (h1 : Lim w B A1 xs) (h2 : Lim w B A2 ys) (hl : xs.length + ys.length ≤ 1099511627776) :
    Calls Try.prog 124 #[.slice A1 xs.length c1, .slice A2 ys.length c2] w fun e w' => ∃ A c, e = .returned (.slice A (limbs (val xs * val ys)).length c) ∧ (limbs (val xs * val ys)).length ≤ c ∧ Lim w' w'.heap.size A (limbs (val xs * val ys)) ∧ Below w.heap.size w w' := by
  by_cases hx0 : xs.length = 0
  · have e := List.eq_nil_of_length_eq_zero hx0
    subst e
    have HE := Lib.hid (show limbs (val ([] : List Nat) * val ys) = [] by rw [val_nil, Nat.zero_mul, limbs_zero])
    rw [HE.out]
    go_enter Try.func124, Try.ntmps124
    go_wp2_with fail
    go_ret
    exact ⟨none, 0, rfl, by simp, Lim.nil _ _ _, Below.refl _ _⟩
  by_cases hy0 : ys.length = 0
  · have e := List.eq_nil_of_length_eq_zero hy0
    subst e
    have HE := Lib.hid (show limbs (val xs * val ([] : List Nat)) = [] by rw [val_nil, Nat.mul_zero, limbs_zero])
    rw [HE.out]
    have t0 : ((xs.length : Int) == 0) = false := beq_eq_false_iff_ne.2 (by omega)
    go_enter Try.func124, Try.ntmps124
    go_wp2_with fail
    go_ret
    exact ⟨none, 0, rfl, by simp, Lim.nil _ _ _, Below.refl _ _⟩
  have t0 : ((xs.length : Int) == 0) = false := beq_eq_false_iff_ne.2 (by omega)
  have t1 : ((ys.length : Int) == 0) = false := beq_eq_false_iff_ne.2 (by omega)
  have hmk := make_limbs (xs.length + ys.length) (by omega)
  rw [Int.natCast_add] at hmk
  go_enter Try.func124, Try.ntmps124
  go_wp2_with fail
  go_loopw [31] (fun t31 wr => ∃ (i : Nat) (os : List Nat), i ≤ xs.length ∧ os.length = xs.length + ys.length ∧ t31 = .int .i64 (i : Int) ∧ Row wr w.heap.size os ∧ Below w.heap.size w wr ∧ val (os.take (i + ys.length)) = val (xs.take i) * val ys) (fun t31 _ => xs.length - (intOf t31).toNat)
  case atStart =>
    refine ⟨0, List.replicate (xs.length + ys.length) 0, by omega, by simp, rfl, Row.made _ _, (Below.refl _ _).alloc (Nat.le_refl _) _, ?_⟩
    rw [List.take_replicate, val_zeros]; simp
  case round =>
    obtain ⟨i, os0, hi, ho0, rfl, hrow0, hbel0, hval0⟩ := hrel
    have HV0 := Lib.hid hval0
    have HO0 := Lib.hid ho0
    clear hval0 ho0
    by_cases hlt : i < xs.length
    · obtain ⟨ad, rfl, hb, hcell⟩ := (h1.below (hbel0.mono hB)).at_ hlt
      obtain ⟨x, hx⟩ : ∃ x, xs.getD i 0 = x := ⟨_, rfl⟩
      have hxs : x < W64 := hx ▸ h1.small.getD i
      rw [hx] at hcell
      have HX := Lib.hid hx
      clear hx
      go_wp2_with fail
      obtain ⟨wo, hwo⟩ : ∃ wo : World, wo = wr := ⟨_, rfl⟩
      subst hwo
      go_loopw [8, 38] (fun t8 t38 wr => ∃ (k c : Nat) (os : List Nat), k ≤ ys.length ∧ c < W64 ∧ os.length = xs.length + ys.length ∧ t8 = .int .u64 (c : Int) ∧ t38 = .int .i64 (k : Int) ∧ Row wr w.heap.size os ∧ Below w.heap.size w wr ∧ os.drop (i + k) = os0.drop (i + k) ∧ val (os.take (i + k)) + W64 ^ (i + k) * c = val (os0.take (i + k)) + W64 ^ i * (x * val (ys.take k))) (fun _ t38 _ => ys.length - (intOf t38).toNat)
      case atStart => exact ⟨0, 0, os0, by omega, W64_pos, HO0.out, rfl, rfl, hrow0, hbel0, rfl, by simp⟩
      case round =>
        obtain ⟨k, c, os, hk, hc, ho, rfl, rfl, hrow, hbel, hdrop, hval⟩ := hrel
        have HV := Lib.hid hval
        have HO := Lib.hid ho
        have HD := Lib.hid hdrop
        clear hval ho hdrop
        by_cases hlk : k < ys.length
        · obtain ⟨ad2, rfl, hb2, hcell2⟩ := (h2.below (hbel.mono hB)).at_ hlk
          obtain ⟨y, hy⟩ : ∃ y, ys.getD k 0 = y := ⟨_, rfl⟩
          have hys : y < W64 := hy ▸ h2.small.getD k
          rw [hy] at hcell2
          have hcg := hrow.cell (k := i + k) (by rw [HO.out]; omega)
          have hfg := hrow.free (i + k)
          obtain ⟨o, hoo⟩ : ∃ o, os.getD (i + k) 0 = o := ⟨_, rfl⟩
          have hos : o < W64 := hoo ▸ hrow.small.getD (i + k)
          rw [hoo] at hcg
          have hstep := times_step (mul_split x y) (add_split (mulLo x y) o 0) (add_split (addLo (mulLo x y) o 0) c 0)
          have hbd := limb_mul_bound hxs hys hos hc hstep
          have hstep2 : val ((os.set (i + k) (addLo (addLo (mulLo x y) o 0) c 0)).take (i + (k + 1))) + W64 ^ (i + (k + 1)) * (mulHi x y + addHi (mulLo x y) o 0 + addHi (addLo (mulLo x y) o 0) c 0) = val (os0.take (i + (k + 1))) + W64 ^ i * (x * val (ys.take (k + 1))) := by
            have hV := HV.out
            have ho2 : os0.getD (i + k) 0 = o := by
              have := congrArg (fun l => l.getD 0 0) HD.out
              rw [← hoo]; simpa using this.symm
            rw [← Nat.add_assoc, val_take_set os _ _ (by rw [HO.out]; omega), val_take_step os0, val_take_step ys, hy, ho2, Nat.pow_succ]
            rw [Nat.pow_add] at hV ⊢
            generalize val (os.take (i + k)) = a1 at *
            generalize val (os0.take (i + k)) = a2 at *
            generalize val (ys.take k) = a3 at *
            generalize W64 ^ i = P at *
            generalize W64 ^ k = Q at *
            generalize addLo (addLo (mulLo x y) o 0) c 0 = s at *
            generalize mulHi x y + addHi (mulLo x y) o 0 + addHi (addLo (mulLo x y) o 0) c 0 = d at *
            have : P * Q * (s + W64 * d) = P * Q * (x * y + o + c) := by rw [hstep]
            grind
          have hb1 := lt_W64 (x := mulHi x y + addHi (mulLo x y) o 0) (by omega)
          have hb2 := lt_W64 hbd
          rw [Int.natCast_add] at hb1 hb2
          rw [Int.natCast_add] at hb2
          have hset := hrow.set (k := i + k) (x := addLo (addLo (mulLo x y) o 0) c 0) (by rw [HO.out]; omega) (addLo_lt _ _ _)
          have hbel' := hbel.setCell (p := ⟨w.heap.size, i + k, none⟩) (Nat.le_refl _) (.int .u64 (addLo (addLo (mulLo x y) o 0) c 0 : Int))
          have HL := Lib.hid (show (os.set (i + k) (addLo (addLo (mulLo x y) o 0) c 0)).length = xs.length + ys.length by rw [List.length_set, HO.out])
          have HDD := Lib.hid (show (os.set (i + k) (addLo (addLo (mulLo x y) o 0) c 0)).drop (i + (k + 1)) = os0.drop (i + (k + 1)) by
            rw [List.drop_set_of_lt (by omega)]
            have := congrArg (List.drop 1) HD.out
            simpa [Nat.add_assoc] using this)
          have HS := Lib.hid hstep2
          have HY := Lib.hid hy
          have HOO := Lib.hid hoo
          clear hstep2 hstep hy hoo
          have ha1 := add64_run0 (mulLo x y) o
          have ha2 := add64_run0 (addLo (mulLo x y) o 0) c
          go_wp2_with fail
          refine (bits_mul64 x y hxs hys _).mono ?_
          rintro e w1 ⟨rfl, rfl⟩
          go_wp2_with fail
          exact ⟨⟨k + 1, _, _, by omega, hbd, HL.out, by simp only [Int.natCast_add], by go_num, hset, hbel', HDD.out, HS.out⟩, by simp [intOf]; omega⟩
        · obtain rfl : k = ys.length := by omega
          have hcg := hrow.cell (k := i + ys.length) (by rw [HO.out]; omega)
          have hfg := hrow.free (i + ys.length)
          have hset := hrow.set (k := i + ys.length) (x := c) (by rw [HO.out]; omega) hc
          have hbel' := hbel.setCell (p := ⟨w.heap.size, i + ys.length, none⟩) (Nat.le_refl _) (.int .u64 (c : Int))
          have HL := Lib.hid (show (os.set (i + ys.length) c).length = xs.length + ys.length by rw [List.length_set, HO.out])
          have HS := Lib.hid (show val ((os.set (i + ys.length) c).take (i + 1 + ys.length)) = val (xs.take (i + 1)) * val ys by
            have hV := HV.out
            have hV0 := HV0.out
            rw [show i + 1 + ys.length = i + ys.length + 1 by omega, val_take_set os _ _ (by rw [HO.out]; omega), hV, val_take_step xs, HX.out, List.take_length, hV0, Nat.add_mul, Nat.mul_assoc])
          go_wp2_with fail
          exact ⟨⟨i + 1, _, by omega, HL.out, by go_num, hset, hbel', HS.out⟩, by simp [intOf]; omega⟩
    · obtain rfl : i = xs.length := by omega
      have HF := Lib.hid (show val os0 = val xs * val ys by
        have hV := HV0.out
        rwa [List.take_length, List.take_of_length_le (by rw [HO0.out]; omega)] at hV)
      go_wp2_with fail
      rw [← HO0.out]
      refine (big_trim _ _ _ _ (hrow0.lim (B := w.heap.size + 1) (by omega)) (Nat.le_refl _) (by rw [HO0.out]; omega)).mono ?_
      rintro e w1 ⟨rfl, rfl⟩
      rw [HF.out]
      go_wp2_with fail
      go_ret
      have hl3 := limbs_val_le hrow0.small
      rw [HF.out] at hl3
      have hlim := (hrow0.lim (B := w.heap.size + 1) (by omega)).trim.more hrow0.lt
      rw [HF.out] at hlim
      exact ⟨_, _, rfl, hl3, hlim, hbel0⟩

end Go.Proofs.Ytmnfokapdipcdaa
