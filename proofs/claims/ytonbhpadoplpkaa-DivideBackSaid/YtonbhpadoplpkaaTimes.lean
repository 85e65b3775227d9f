import Derived.Test.YtonbhpadoplpkaaLimb3
import Derived.Test.YtonbhpadoplpkaaNat
import Derived.Laws.EntriesVeiled
/- The package times: trim, school. -/
namespace Go.Proofs.Ytonbhpadoplpkaa
open Go.RowKit Go.Deep
set_option maxHeartbeats 400000 in
theorem times_trim (A : Option Addr) (c : Nat) (xs : List Nat) (w : World) {B : Nat} (h : Lim w B A xs) (_hc : xs.length ≤ c) (_hl : xs.length ≤ 35184372088832) :
    Calls Try.prog 78 #[.slice A xs.length c] w fun e w' => e = .returned (.slice A (limbs (val xs)).length c) ∧ w = w' := by
  rw [← trimL_eq h.small]
  go_enter Try.func78, Try.ntmps78
  go_wp2
  go_loop [0] (fun v => ∃ n : Nat, n ≤ xs.length ∧ v = .slice A n c ∧ trimL (xs.take n) = trimL xs) (fun v => match v with | .slice _ n _ => n | _ => 0)
  case atStart => exact ⟨xs.length, Nat.le_refl _, rfl, by simp⟩
  case round =>
    obtain ⟨n, hn, rfl, ht⟩ := hrel
    have HT := Lib.hid ht
    clear ht
    rcases n with _ | n
    · go_wp2
      go_ret
      exact ⟨by rw [← HT.out]; rfl, rfl⟩
    · obtain ⟨ad, rfl, hb, hcell⟩ := h.at_ (k := n) (by omega)
      generalize hx : xs.getD n 0 = x at *
      have HX := Lib.hid hx
      clear hx
      go_wp2
      · have hx : ((x : Int) == 0) = true := by assumption
        simp only [beq_iff_eq] at hx
        refine ⟨⟨n, by omega, rfl, ?_⟩, by simp⟩
        rw [← HT.out, trimL_zero xs n (by omega) (by have := HX.out; omega)]
      · have hx : ((x : Int) == 0) = false := by assumption
        simp only [beq_eq_false_iff_ne] at hx
        go_ret
        have e : (trimL xs).length = n + 1 := by
          rw [← HT.out, trimL_pos xs n (by omega) (by have := HX.out; omega), List.length_take]; omega
        exact ⟨by rw [e]; rfl, rfl⟩
theorem school_step {lo hi o s1 c1 s c2 carry x y : Nat} (h1 : lo + W64 * hi = x * y) (h2 : s1 + W64 * c1 = lo + carry + 0) (h3 : s + W64 * c2 = o + s1 + 0) : s + W64 * (hi + c1 + c2) = x * y + o + carry := by
  rw [Nat.mul_add, Nat.mul_add]; omega
set_option maxHeartbeats 1600000 in
set_option maxRecDepth 100000 in
theorem times_school (A1 A2 : Option Addr) (l1 l2 c1 c2 : Nat) (xs ys : List Nat) (w : World) (h1 : Lim w w.heap.size A1 xs) (h2 : Lim w w.heap.size A2 ys) (e1 : l1 = xs.length) (e2 : l2 = ys.length) (hl : l1 + l2 ≤ 1099511627776) :
    Calls Try.prog 64 #[.slice A1 l1 c1, .slice A2 l2 c2] w fun e w' => ∃ A c, e = .returned (.slice A (limbs (val xs * val ys)).length c) ∧ (limbs (val xs * val ys)).length ≤ c ∧ Lim w' w'.heap.size A (limbs (val xs * val ys)) ∧ Fresh w' w.heap.size A c ∧ Below w.heap.size w w' := by
  have hmk := make_limbs (l1 + l2) (by omega)
  rw [Int.natCast_add] at hmk
  have E1 := Lib.hid e1
  have E2 := Lib.hid e2
  clear e1 e2
  go_enter Try.func64, Try.ntmps64
  go_wp2_with fail
  go_loopw [20] (fun t31 wr => ∃ (i : Nat) (os : List Nat), i ≤ l1 ∧ os.length = l1 + l2 ∧ t31 = .int .i64 (i : Int) ∧ Row wr w.heap.size os ∧ Fresh wr w.heap.size (some ⟨w.heap.size, 0, none⟩) (l1 + l2) ∧ Below w.heap.size w wr ∧ val (os.take (i + l2)) = val (xs.take i) * val ys) (fun t31 _ => l1 - (intOf t31).toNat)
  case atStart =>
    refine ⟨0, List.replicate (l1 + l2) 0, by omega, by simp, rfl, Row.made _ _, Fresh.made _ _, (Below.refl _ _).alloc (Nat.le_refl _) _, ?_⟩
    rw [List.take_replicate, val_zeros]; simp
  case round =>
    obtain ⟨i, os0, hi, ho0, rfl, hrow0, hfr0, hbel0, hval0⟩ := hrel
    have HV0 := Lib.hid hval0
    have HO0 := Lib.hid ho0
    have HF0 := Lib.hid hfr0
    clear hval0 ho0 hfr0
    by_cases hlt : i < l1
    · obtain ⟨x, hx⟩ : ∃ x, xs.getD i 0 = x := ⟨_, rfl⟩
      have hxs : x < W64 := hx ▸ h1.small.getD i
      have HX := Lib.hid hx
      have hltI : (i : Int) < (l1 : Int) := by omega
      clear hx
      go_wp2_with fail
      obtain ⟨wo, hwo⟩ : ∃ wo : World, wo = wr := ⟨_, rfl⟩
      subst hwo
      go_loopw [7, 25] (fun t8 t38 wr => ∃ (k c : Nat) (os : List Nat), k ≤ l2 ∧ c < W64 ∧ os.length = l1 + l2 ∧ t8 = .int .u64 (c : Int) ∧ t38 = .int .i64 (k : Int) ∧ Row wr w.heap.size os ∧ Fresh wr w.heap.size (some ⟨w.heap.size, 0, none⟩) (l1 + l2) ∧ Below w.heap.size w wr ∧ os.drop (i + k) = os0.drop (i + k) ∧ val (os.take (i + k)) + W64 ^ (i + k) * c = val (os0.take (i + k)) + W64 ^ i * (x * val (ys.take k))) (fun _ t38 _ => l2 - (intOf t38).toNat)
      case atStart => exact ⟨0, 0, os0, by omega, W64_pos, HO0.out, rfl, rfl, hrow0, HF0.out, hbel0, rfl, by simp⟩
      case round =>
        clear hrow0 hbel0
        obtain ⟨k, c, os, hk, hc, ho, rfl, rfl, hrow, hfr, hbel, hdrop, hval⟩ := hrel
        have HV := Lib.hid hval
        have HO := Lib.hid ho
        have HD := Lib.hid hdrop
        have HF := Lib.hid hfr
        clear hval ho hdrop hfr
        by_cases hlk : k < l2
        · obtain ⟨ad, hA1, hb, hcell⟩ := (h1.below hbel).at_ (k := i) (by rw [← E1.out]; exact hlt)
          subst hA1
          rw [HX.out] at hcell
          obtain ⟨ad2, hA2, hb2, hcell2⟩ := (h2.below hbel).at_ (k := k) (by rw [← E2.out]; exact hlk)
          subst hA2
          obtain ⟨y, hy⟩ : ∃ y, ys.getD k 0 = y := ⟨_, rfl⟩
          have hys : y < W64 := hy ▸ h2.small.getD k
          rw [hy] at hcell2
          have hcg := hrow.cell (k := i + k) (by rw [HO.out]; omega)
          have hfg := hrow.free (i + k)
          obtain ⟨o, hoo⟩ : ∃ o, os.getD (i + k) 0 = o := ⟨_, rfl⟩
          have hos : o < W64 := hoo ▸ hrow.small.getD (i + k)
          rw [hoo] at hcg
          have hstep := school_step (mul_split x y) (add_split (mulLo x y) c 0) (add_split o (addLo (mulLo x y) c 0) 0)
          have hbd := limb_mul_bound hxs hys hos hc hstep
          have hstep2 : val ((os.set (i + k) (addLo o (addLo (mulLo x y) c 0) 0)).take (i + (k + 1))) + W64 ^ (i + (k + 1)) * (mulHi x y + addHi (mulLo x y) c 0 + addHi o (addLo (mulLo x y) c 0) 0) = val (os0.take (i + (k + 1))) + W64 ^ i * (x * val (ys.take (k + 1))) := by
            have hV := HV.out
            have ho2 : os0.getD (i + k) 0 = o := by
              have := congrArg (fun l => l.getD 0 0) HD.out
              rw [← hoo]; simpa using this.symm
            rw [← Nat.add_assoc, val_take_set os _ _ (by rw [HO.out]; omega), val_take_step os0, val_take_step ys, hy, ho2, Nat.pow_succ]
            rw [Nat.pow_add] at hV ⊢
            generalize val (os.take (i + k)) = a1 at *
            generalize val (os0.take (i + k)) = a2 at *
            generalize val (ys.take k) = a3 at *
            generalize W64 ^ i = P at *
            generalize W64 ^ k = Q at *
            generalize addLo o (addLo (mulLo x y) c 0) 0 = s at *
            generalize mulHi x y + addHi (mulLo x y) c 0 + addHi o (addLo (mulLo x y) c 0) 0 = d at *
            have : P * Q * (s + W64 * d) = P * Q * (x * y + o + c) := by rw [hstep]
            grind
          have hb1 := lt_W64 (x := mulHi x y + addHi (mulLo x y) c 0) (by omega)
          have hb2 := lt_W64 hbd
          rw [Int.natCast_add] at hb1 hb2
          rw [Int.natCast_add] at hb2
          have HROW := Lib.hid hrow
          have HBEL := Lib.hid hbel
          have HL := Lib.hid (show (os.set (i + k) (addLo o (addLo (mulLo x y) c 0) 0)).length = l1 + l2 by rw [List.length_set, HO.out])
          have HDD := Lib.hid (show (os.set (i + k) (addLo o (addLo (mulLo x y) c 0) 0)).drop (i + (k + 1)) = os0.drop (i + (k + 1)) by
            rw [List.drop_set_of_lt (by omega)]
            have := congrArg (List.drop 1) HD.out
            simpa [Nat.add_assoc] using this)
          have HS := Lib.hid hstep2
          have HY := Lib.hid hy
          have HOO := Lib.hid hoo
          have hm := fun n => quiet_left (bits_mul64 x y hxs hys (wr.drewN n))
          have HM := Lib.hid hm
          have r1 := later_cell hcell
          clear hstep2 hstep hy hoo hm hrow hbel
          have ha1 := add64_run0 (mulLo x y) c
          have ha2 := add64_run0 o (addLo (mulLo x y) c 0)
          have hklI : (k : Int) < (l2 : Int) := by omega
          go_wp2_with fail
          go_quiet ((go_at_call 77; exact quiet_left (bits_mul64 x y hxs hys _)))
          have hrow2 := HROW.out.drewN nq
          have hbel2 := below_drewN HBEL.out nq
          have hfr2 : Fresh (wr.drewN nq) w.heap.size (some ⟨w.heap.size, 0, none⟩) (l1 + l2) := HF.out
          have hcg2 : (wr.drewN nq).cell? ⟨w.heap.size, i + k, none⟩ = some (.int .u64 (o : Int)) := hcg
          have hfg2 : (wr.drewN nq).frozen? ⟨w.heap.size, i + k, none⟩ = false := hfg
          generalize wr.drewN nq = w2 at hrow2 hbel2 hfr2 hcg2 hfg2 ⊢
          have hset := hrow2.set (k := i + k) (x := addLo o (addLo (mulLo x y) c 0) 0) (by rw [HO.out]; omega) (addLo_lt _ _ _)
          have hbel' := hbel2.setCell (p := ⟨w.heap.size, i + k, none⟩) (Nat.le_refl _) (.int .u64 (addLo o (addLo (mulLo x y) c 0) 0 : Int))
          have hfr' := hfr2.set w.heap.size (i + k) (.int .u64 (addLo o (addLo (mulLo x y) c 0) 0 : Int))
          have HSET := Lib.hid hset
          have HBL := Lib.hid hbel'
          have HFR := Lib.hid hfr'
          clear hset hbel' hfr' hrow2 hbel2 hfr2 hcg hfg r1
          go_wp2_with fail
          exact ⟨⟨k + 1, _, _, by omega, hbd, HL.out, by simp only [Int.natCast_add], by go_num, HSET.out, HFR.out, HBL.out, HDD.out, HS.out⟩, by simp [intOf]; omega⟩
        · obtain rfl : k = l2 := by omega
          have hcg := hrow.cell (k := i + k) (by rw [HO.out]; omega)
          have hfg := hrow.free (i + k)
          have hset := hrow.set (k := i + k) (x := c) (by rw [HO.out]; omega) hc
          have hbel' := hbel.setCell (p := ⟨w.heap.size, i + k, none⟩) (Nat.le_refl _) (.int .u64 (c : Int))
          have hfr' := HF.out.set w.heap.size (i + k) (.int .u64 (c : Int))
          have HL := Lib.hid (show (os.set (i + k) c).length = l1 + k by rw [List.length_set, HO.out])
          have HS := Lib.hid (show val ((os.set (i + k) c).take (i + 1 + k)) = val (xs.take (i + 1)) * val ys by
            have hV := HV.out
            have hV0 := HV0.out
            rw [show i + 1 + k = i + k + 1 by omega, val_take_set os _ _ (by rw [HO.out]; omega), hV, val_take_step xs, HX.out, List.take_of_length_le (l := ys) (by rw [← E2.out]; exact Nat.le_refl _), hV0, Nat.add_mul, Nat.mul_assoc])
          have hkkI : ¬ ((k : Int) < (k : Int)) := by omega
          go_wp2_with fail
          exact ⟨⟨i + 1, _, by omega, HL.out, by go_num, hset, hfr', hbel', HS.out⟩, by simp [intOf]; omega⟩
    · obtain rfl : i = l1 := by omega
      have HF := Lib.hid (show val os0 = val xs * val ys by
        have hV := HV0.out
        rwa [List.take_of_length_le (l := os0) (by rw [HO0.out]; exact Nat.le_refl _), List.take_of_length_le (l := xs) (by rw [← E1.out]; exact Nat.le_refl _)] at hV)
      go_wp2_with fail
      have hex : i + l2 = os0.length := HO0.out.symm
      rw [hex]
      refine (times_trim _ _ _ _ (hrow0.lim (B := w.heap.size + 1) (by omega)) (Nat.le_refl _) (by rw [HO0.out]; omega)).mono ?_
      rintro e w1 ⟨rfl, rfl⟩
      rw [HF.out]
      go_wp2_with fail
      go_ret
      have hl3 := limbs_val_le hrow0.small
      rw [HF.out] at hl3
      have hlim := (hrow0.lim (B := w.heap.size + 1) (by omega)).trim.more hrow0.lt
      rw [HF.out] at hlim
      exact ⟨_, _, rfl, hl3, hlim, by rw [← hex]; exact HF0.out, hbel0⟩
end Go.Proofs.Ytonbhpadoplpkaa
/- The package times: deep, told, Mul (where one of both is short). -/
namespace Go.Proofs.Ytonbhpadoplpkaa
open Go.RowKit Go.Deep
set_option maxRecDepth 100000 in
theorem times_deep1 (A1 A2 : Option Addr) (l1 l2 c1 c2 d g : Nat) (xs ys : List Nat) (w : World) (h1 : Lim w w.heap.size A1 xs) (h2 : Lim w w.heap.size A2 ys) (e1 : l1 = xs.length) (e2 : l2 = ys.length) (hl : l1 + l2 ≤ 1099511627776)
    (hd : w.cell? ⟨d, 0, none⟩ = some (.int .i64 24)) (hs : min l1 l2 < 24) :
    Calls Try.prog 63 #[.slice A1 l1 c1, .slice A2 l2 c2, .pointer (some ⟨d, 0, none⟩), .pointer (some ⟨g, 0, none⟩)] w fun e w' => ∃ A c, e = .returned (.slice A (limbs (val xs * val ys)).length c) ∧ (limbs (val xs * val ys)).length ≤ c ∧ Lim w' w'.heap.size A (limbs (val xs * val ys)) ∧ Fresh w' w.heap.size A c ∧ Below w.heap.size w w' := by
  have hsI : min (l1 : Int) (l2 : Int) < 24 := by omega
  have E1 := Lib.hid e1
  have E2 := Lib.hid e2
  clear e1 e2 hs
  go_enter Try.func63, Try.ntmps63
  go_wp2_with fail
  refine (times_school A1 A2 l1 l2 c1 c2 xs ys w h1 h2 E1.out E2.out hl).mono ?_
  rintro e w1 ⟨A, c, rfl, hc, hlim, hf, hb⟩
  go_wp2_with fail
  go_ret
  exact ⟨A, c, rfl, hc, hlim, hf, hb⟩
set_option maxRecDepth 100000 in
theorem times_deep (w : World) :
    Calls Try.prog 44 #[.int .i64 24] w fun e w' => ∃ d g, e = .returned (.func (.func 63) #[] #[.pointer (some ⟨d, 0, none⟩), .pointer (some ⟨g, 0, none⟩)]) ∧ d = w.heap.size ∧ g = w.heap.size + 1 ∧ w'.heap.size = w.heap.size + 2 ∧ Below w.heap.size w w' ∧
      w'.cell? ⟨d, 0, none⟩ = some (.int .i64 24) ∧ w'.cell? ⟨g, 0, none⟩ = some (.func (.func 63) #[] #[.pointer (some ⟨d, 0, none⟩), .pointer (some ⟨g, 0, none⟩)]) := by
  go_enter Try.func44, Try.ntmps44
  go_wp2_with fail
  go_ret
  refine ⟨w.heap.size, w.heap.size + 1, rfl, rfl, rfl, by simp, ?_, ?_, ?_⟩
  · first
    | exact ((Below.refl _ w).alloc (Nat.le_refl _) _).alloc (by simp) _
    | exact (((Below.refl _ w).alloc (Nat.le_refl _) _).alloc (by simp) _).setCell (p := ⟨w.heap.size + 1, 0, none⟩) (by simp) _
  · rw [cell_of_row _ _ 0 #[.int .i64 24] 3 (0, 0)]
    · rfl
    · rw [Below.heap_alloc _ _ _ (by simp)]; exact heap_alloc_new w _
  · rw [cell_of_row _ _ 0 #[.func (.func 63) #[] #[.pointer (some ⟨w.heap.size, 0, none⟩), .pointer (some ⟨w.heap.size + 1, 0, none⟩)]] _ (0, 0)]
    · rfl
    · have h := heap_alloc_new (w.alloc (.cells #[.int .i64 24] 3)) (.cells #[.func (.func 63) #[] #[.pointer (some ⟨w.heap.size, 0, none⟩), .pointer (some ⟨w.heap.size + 1, 0, none⟩)]] 59)
      simpa using h
theorem lc_mul_ge {x y : Nat} (hx : 0 < x) (hy : 0 < y) : lc x + lc y ≤ lc (x * y) + 1 := by
  have h1 : W64 ^ (lc x - 1) ≤ x := by
    have h : ¬ lc x ≤ lc x - 1 := fun h => by
      have : lc x = 0 := by omega
      have := lc_eq_zero.1 this; omega
    rw [lc_le] at h; omega
  have h2 : W64 ^ (lc y - 1) ≤ y := by
    have h : ¬ lc y ≤ lc y - 1 := fun h => by
      have : lc y = 0 := by omega
      have := lc_eq_zero.1 this; omega
    rw [lc_le] at h; omega
  have h3 := Nat.mul_le_mul h1 h2
  rw [← Nat.pow_add] at h3
  have h4 : ¬ lc (x * y) ≤ lc x - 1 + (lc y - 1) := fun h => by
    rw [lc_le] at h; omega
  omega
set_option maxRecDepth 100000 in
theorem times_told (u v : Value) (d p : Nat) (x y : Int) (w : World) (hx : IntV w u x) (hy : IntV w v y) (lx : lc x.natAbs ≤ 4096) (ly : lc y.natAbs ≤ 4096) (hs : min (lc x.natAbs) (lc y.natAbs) < 24) (hd : w.cell? ⟨d, 0, none⟩ = some (.int .i64 24)) (hdl : d < w.heap.size) :
    Calls Try.prog 43 #[u, v, .func (.func 63) #[] #[.pointer (some ⟨d, 0, none⟩), .pointer (some ⟨p, 0, none⟩)]] w fun e w' => ∃ v', e = .returned (.tuple #[v', .int .i64 (longE (x * y))]) ∧ RawAt w' w.heap.size v' (longR (x * y)) ∧ Below w.heap.size w w' := by
  obtain ⟨A1, l1, c1, rfl, hl1, hc1, hlim1⟩ := hx
  obtain ⟨A2, l2, c2, rfl, hl2, hc2, hlim2⟩ := hy
  have HR1 := Lib.hid (right_of lx)
  have HR2 := Lib.hid (right_of ly)
  have HL1 := Lib.hid hl1
  have HL2 := Lib.hid hl2
  have hI1 : (l1 : Int) ≤ 4096 := by unfold lc at lx; omega
  have hI2 : (l2 : Int) ≤ 4096 := by unfold lc at ly; omega
  have HX := Lib.hid lx
  have HY := Lib.hid ly
  clear hl1 hl2 lx ly
  obtain ⟨s1, hs1⟩ : ∃ s, decide (x < 0) = s := ⟨_, rfl⟩
  obtain ⟨s2, hs2⟩ : ∃ s, decide (y < 0) = s := ⟨_, rfl⟩
  have HS1 := Lib.hid hs1
  have HS2 := Lib.hid hs2
  rw [hs1, hs2]
  clear hs1 hs2
  have HMIN := Lib.hid hs
  have HDL := Lib.hid hdl
  clear hs
  go_enter Try.func43, Try.ntmps43
  go_wp2_with fail
  obtain ⟨W0, g, h, r, hW, hg, hh, hr, hgr, bx, by_, br, hbw, hsz⟩ := box_three w (.bool s1) (.slice A1 l1 c1) (.bool s2) (.slice A2 l2 c2) (.bool false) (.slice none 0 0)
  have HW := Lib.hid (show w.heap.size = g from hg)
  have hd := (hbw.cell (p := ⟨d, 0, none⟩) (by show d < g; omega)).trans hd
  rw [hW, hr, hh, hg]
  have k1 := ((hg ▸ hlim1 : Lim w g A1 (limbs x.natAbs)).below hbw)
  have k2 := ((hg ▸ hlim2 : Lim w g A2 (limbs y.natAbs)).below hbw)
  clear hW hr hh hlim1 hlim2
  refine (limb_right s1 A1 l1 c1 (limbs x.natAbs) W0 (by omega) k1 HL1.out).mono ?_
  rintro e w1 ⟨rfl, hb1⟩
  rw [← HS1.out, HR1.out, HS1.out]
  have hd := (hb1.cell (p := ⟨d, 0, none⟩) (by show d < W0.heap.size; omega)).trans hd
  have bx := bx.below hb1 bx.lt
  have by_ := by_.below hb1 by_.lt
  have br := br.below hb1 br.lt
  have hbw1 := hbw.trans (hb1.mono (by omega))
  have k1 := k1.below (hb1.mono (by omega))
  have k2 := k2.below (hb1.mono (by omega))
  have hsz1 := hb1.size
  have a0 := bx.cell0
  have a1 := bx.cell1
  have b0 := by_.cell0
  have b1 := by_.cell1
  clear hb1 hg
  go_wp2_with fail
  refine (limb_right s2 A2 l2 c2 (limbs y.natAbs) w1 (by omega) k2 HL2.out).mono ?_
  rintro e w2 ⟨rfl, hb2⟩
  rw [← HS2.out, HR2.out, HS2.out]
  have hd := (hb2.cell (p := ⟨d, 0, none⟩) (by have := HDL.out; have := HW.out; show d < w1.heap.size; omega)).trans hd
  have bx := bx.below hb2 bx.lt
  have by_ := by_.below hb2 by_.lt
  have br := br.below hb2 br.lt
  have hbw2 := hbw1.trans (hb2.mono (by omega))
  have k1 := (k1.below (hb2.mono (by omega))).more (show g ≤ w2.heap.size by have := hb2.size; omega)
  have k2 := (k2.below (hb2.mono (by omega))).more (show g ≤ w2.heap.size by have := hb2.size; omega)
  have HSZ2 := Lib.hid (show g + 3 ≤ w2.heap.size by have := hb2.size; omega)
  clear hb2 a0 a1 b0 b1 hbw1 hbw hsz1 hsz
  have a0 := bx.cell0
  have a1 := bx.cell1
  have b0 := by_.cell0
  have b1 := by_.cell1
  have hNN := Int.natAbs_mul x y
  by_cases hbig : 4097 < l1 + l2
  · have hLONG : 4096 < lc (x * y).natAbs := by
      rw [hNN]
      have e1 := HL1.out
      have e2 := HL2.out
      have h1 : 0 < x.natAbs := Nat.pos_of_ne_zero fun h => by rw [h, limbs_zero] at e1; simp at e1; omega
      have h2 : 0 < y.natAbs := Nat.pos_of_ne_zero fun h => by rw [h, limbs_zero] at e2; simp at e2; omega
      have := lc_mul_ge h1 h2
      unfold lc at this ⊢
      omega
    have HR := Lib.hid (show longR (x * y) = (false, []) by unfold longR; rw [if_pos hLONG])
    have HE := Lib.hid (show longE (x * y) = 3 by unfold longE; rw [if_pos hLONG])
    have t2 : (0 : Int) < (l1 : Int) := by omega
    have t3 : (0 : Int) < (l2 : Int) := by omega
    have t1 : (4097 : Int) < (l1 : Int) + (l2 : Int) := by omega
    have d0 := br.cell0
    have d1 := br.cell1
    have fr := br.free
    clear hLONG hNN
    go_wp2_with fail
    refine bodyPost_ret (v := .tuple #[.agg #[.bool false, (.slice none 0 0)], (.int .i64 3)]) (by
      rw [results_cell_tmp rfl]
      have hld := run_loadVar_row (P := Try.prog) _ r 24 24 #[.bool false, (.slice none 0 0)] (0, 0) _ br.store Try.underlying24 rfl (by kernel_rfl)
      simp [asAddr, Result.andThen, hld]) rfl ?_
    rw [HR.out, HE.out]
    exact ⟨_, rfl, RawAt.zero _ _, by rw [HW.out]; exact store2_below hbw2 (by omega)⟩
  · have HNB := Lib.hid hbig
    have HNN := Lib.hid hNN
    have hcnd : ¬ ((4097 : Int) < (l1 : Int) + (l2 : Int)) := by omega
    have HBR := Lib.hid br
    have HBW := Lib.hid hbw2
    clear hbig hNN
    go_wp2_with fail
    refine (times_deep1 A1 A2 l1 l2 c1 c2 d p (limbs x.natAbs) (limbs y.natAbs) w2 k1 k2 HL1.out HL2.out (by omega) hd (by have h1 := HMIN.out; have h2 := HL1.out; have h3 := HL2.out; unfold lc at h1; omega)).mono ?_
    rintro e w3 ⟨A, c, rfl, hc, hlim, hf, hb3⟩
    rw [val_limbs, val_limbs, ← HNN.out] at hc hlim ⊢
    obtain ⟨n, hn⟩ : ∃ n, (limbs (x * y).natAbs).length = n := ⟨_, rfl⟩
    have HN := Lib.hid hn
    rw [hn]
    have br3 := HBR.out.below hb3 HBR.out.lt
    have bx3 := bx.below hb3 bx.lt
    have by3 := by_.below hb3 by_.lt
    have HBF := Lib.hid (HBW.out.trans (hb3.mono (by have := HSZ2.out; omega)))
    have HF := Lib.hid hf
    have HLIM := Lib.hid hlim
    have HC := Lib.hid (show n ≤ c by rw [← hn]; exact hc)
    clear a0 a1 b0 b1 hn hc hlim hf hb3 bx by_ br
    have a0 := bx3.cell0
    have b0 := by3.cell0
    have d0 := br3.cell0
    have d1 := br3.cell1
    have fr := br3.free
    by_cases hlong : 4096 < n
    · have HR := Lib.hid (show longR (x * y) = (false, []) by unfold longR; rw [if_pos (by unfold lc; rw [HN.out]; exact hlong)])
      have HE := Lib.hid (show longE (x * y) = 3 by unfold longE; rw [if_pos (by unfold lc; rw [HN.out]; exact hlong)])
      have hlI : (4096 : Int) < (n : Int) := by omega
      clear hlong
      go_wp2_with fail
      refine bodyPost_ret (v := .tuple #[.agg #[.bool false, (.slice none 0 0)], (.int .i64 3)]) (by
        rw [results_cell_tmp rfl]
        have hld := run_loadVar_row (P := Try.prog) _ r 24 24 #[.bool false, (.slice none 0 0)] (0, 0) _ br3.store Try.underlying24 rfl (by kernel_rfl)
        simp [asAddr, Result.andThen, hld]) rfl ?_
      rw [HR.out, HE.out]
      exact ⟨_, rfl, RawAt.zero _ _, by rw [HW.out]; exact store2_below HBF.out (by omega)⟩
    · have HOK : lc (x * y).natAbs ≤ 4096 := by unfold lc; rw [HN.out]; omega
      have HR := Lib.hid (longR_ok HOK)
      have HE := Lib.hid (longE_ok HOK)
      have hlI : ¬ ((4096 : Int) < (n : Int)) := by omega
      have HSG := Lib.hid (show decide (x * y < 0) = (decide (0 < n) && (s1 != s2)) by
        have h1 := signed_mul' s1 s2 x.natAbs y.natAbs
        rw [← HS1.out, ← HS2.out, signed_of, signed_of, HS1.out, HS2.out] at h1
        rw [← h1, signed_neg, Bool.and_comm, ← HN.out, ← Int.natAbs_mul, some_limbs])
      have HFIN := Lib.hid (fun (b : Bool) (hb : b = decide (x * y < 0)) => show RawAt ((w3.setCell ⟨r, 0, none⟩ (.bool b)).setCell ⟨r, 1, none⟩ (.slice A n c)) w.heap.size (.agg #[.bool b, .slice A n c]) (rawOf (x * y)) from by
        subst hb
        have h1 : RawAt w3 w2.heap.size (.agg #[.bool (decide (x * y < 0)), .slice A n c]) (rawOf (x * y)) := ⟨A, n, c, rfl, HN.out.symm, HC.out, HLIM.out, HF.out⟩
        exact (h1.ext (ext_store2 br3.nums) (fun i hi => by subst hi; have := HSZ2.out; omega)).since (by rw [HW.out]; have := HSZ2.out; omega))
      clear hlong HOK
      by_cases hn0 : 0 < n
      · have hn0I : (0 : Int) < (n : Int) := by omega
        have HB := Lib.hid (show (!(s1 == s2)) = decide (x * y < 0) by rw [HSG.out, decide_eq_true hn0, Bool.true_and]; rfl)
        clear hn0
        go_wp2_with fail
        refine bodyPost_ret (v := .tuple #[.agg #[.bool (!(s1 == s2)), (.slice A n c)], (.int .i64 0)]) (by
          rw [results_cell_tmp rfl]
          have hld := run_loadVar_row (P := Try.prog) _ r 24 24 #[.bool (!(s1 == s2)), (.slice A n c)] (0, 0) _ br3.store Try.underlying24 rfl (by kernel_rfl)
          simp [asAddr, Result.andThen, hld]) rfl ?_
        rw [HR.out, HE.out]
        exact ⟨_, rfl, HFIN.out _ HB.out, by rw [HW.out]; exact store2_below HBF.out (by omega)⟩
      · have hn0I : ¬ ((0 : Int) < (n : Int)) := by omega
        have HB := Lib.hid (show false = decide (x * y < 0) by rw [HSG.out, decide_eq_false hn0, Bool.false_and])
        clear hn0
        go_wp2_with fail
        refine bodyPost_ret (v := .tuple #[.agg #[.bool false, (.slice A n c)], (.int .i64 0)]) (by
          rw [results_cell_tmp rfl]
          have hld := run_loadVar_row (P := Try.prog) _ r 24 24 #[.bool false, (.slice A n c)] (0, 0) _ br3.store Try.underlying24 rfl (by kernel_rfl)
          simp [asAddr, Result.andThen, hld]) rfl ?_
        rw [HR.out, HE.out]
        exact ⟨_, rfl, HFIN.out _ HB.out, by rw [HW.out]; exact store2_below HBF.out (by omega)⟩
set_option maxHeartbeats 1000000 in
set_option maxRecDepth 100000 in
theorem times_Mul (u v : Value) (x y : Int) (w : World) (hx : IntV w u x) (hy : IntV w v y) (lx : lc x.natAbs ≤ 4096) (ly : lc y.natAbs ≤ 4096) (hs : min (lc x.natAbs) (lc y.natAbs) < 24) :
    Calls Try.prog 21 #[u, v] w fun e w' => ∃ v', e = .returned (.tuple #[v', .int .i64 (longE (x * y))]) ∧ RawAt w' w.heap.size v' (longR (x * y)) ∧ Below w.heap.size w w' := by
  obtain ⟨s1, A1, l1, c1, rfl, HU⟩ := hx.open
  obtain ⟨s2, A2, l2, c2, rfl, HV⟩ := hy.open
  have LX := Lib.hid lx
  have LY := Lib.hid ly
  have LS := Lib.hid hs
  clear hx hy lx ly hs
  go_enter Try.func21, Try.ntmps21
  go_wp2_with fail
  obtain ⟨W0, g, h, r, hW, hg, hh, hr, hgr, bx, by_, br, hbw, hsz⟩ := box_three w (.bool s1) (.slice A1 l1 c1) (.bool s2) (.slice A2 l2 c2) (.bool false) (.slice none 0 0)
  have HW := Lib.hid (show w.heap.size = g from hg)
  rw [hW, hr, hh, hg]
  have HBW := Lib.hid hbw
  have HBWS := Lib.hid (show Below w.heap.size w W0 from by rw [hg]; exact hbw)
  clear hW hr hg hh hbw
  refine wp_region_stages (fun w' => ∃ δ : Later Nix W0, w' = δ.world) [(false, 0), (false, 1), (true, 2), (true, 3), (false, 4), (false, 5)] 6 [.reads [_, _], .loud _, .loud _, .reads [_, _]] [_, _] (by kernel_rfl) (by kernel_rfl) rfl rfl ?_ ?_
  · exact ⟨⟨_, nix_drawn W0⟩, rfl⟩
  have r0 := later_cell bx.cell0
  have r1 := later_cell bx.cell1
  have r2 := later_cell by_.cell0
  have r3 := later_cell by_.cell1
  refine wpStages_reads ?_
  repeat (go_big_quiet_step (fail))
  refine wpQuiet_nil ?_
  refine wpStages_loud rfl ?_
  intro K hK
  go_big_op
  refine (times_deep _).mono ?_
  rintro e w1 ⟨d, p, rfl, hd, hp, hsz1, hb1, hcd, hcp⟩
  have he1 : Ext Nix W0 w1 := (nix_drawn W0).later (Ext.of_below hb1)
  have HD := Lib.hid (show d < w1.heap.size by have h : (W0.drewN 1).heap.size = W0.heap.size := rfl; omega)
  clear hd hp hsz1
  refine hK _ _ ⟨⟨w1, he1⟩, rfl⟩ ?_
  clear hK K
  refine wpStages_loud rfl ?_
  intro K hK
  go_big_op
  have hb01 : Below W0.heap.size W0 w1 := Ext.below (he1.mono (fun _ _ h => h) (fun _ h => h.elim))
  refine (times_told _ _ d p x y w1 ((HU.out.below HBWS.out).below hb01) ((HV.out.below HBWS.out).below hb01) LX.out LY.out LS.out hcd HD.out).mono ?_
  rintro e w2 ⟨v2, rfl, hv2, hb2⟩
  have he2 : Ext Nix W0 w2 := he1.later (Ext.of_below hb2)
  refine hK _ _ ⟨⟨w2, he2⟩, rfl⟩ ?_
  clear hK K
  obtain ⟨E, hE⟩ : ∃ E : Int, longE (x * y) = E := ⟨_, rfl⟩
  have HE := Lib.hid hE
  rw [hE]
  clear hE
  obtain ⟨b2, B2, m2, d2, rfl, HV2⟩ := hv2.open
  have hb02 : Below W0.heap.size W0 w2 := Ext.below (he2.mono (fun _ _ h => h) (fun _ h => h.elim))
  have br2 := br.below hb02 br.lt
  have HB2 := Lib.hid (HBW.out.trans (hb02.mono (by omega)))
  have hbl := hb01.size
  have HR := Lib.hid ((HV2.out.ext (ext_store2 (a := .bool b2) (b := .slice B2 m2 d2) br2.nums) (fun i hi => by subst hi; omega)).since (base' := w.heap.size) (by rw [HW.out]; omega))
  have d0 := br2.cell0
  have d1 := br2.cell1
  have fr := br2.free
  clear hv2 hb2 hb1 hcd hcp r0 r1 r2 r3
  refine wpStages_reads ?_
  repeat (go_big_quiet_step (fail))
  refine wpQuiet_nil ?_
  refine wpStages_nil ?_
  go_wp2_with fail
  refine bodyPost_ret (v := .tuple #[.agg #[.bool b2, (.slice B2 m2 d2)], (.int .i64 E)]) (by
    rw [results_cell_tmp rfl]
    have hld := run_loadVar_row (P := Try.prog) _ r 24 24 #[.bool b2, (.slice B2 m2 d2)] (0, 0) _ br2.store Try.underlying24 rfl (by kernel_rfl)
    simp [asAddr, Result.andThen, hld]) rfl ?_
  rw [HE.out]
  exact ⟨_, rfl, HR.out, by rw [HW.out]; exact store2_below HB2.out (by omega)⟩
end Go.Proofs.Ytonbhpadoplpkaa
