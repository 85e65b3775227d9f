import Derived.Test.YtonbhpadoplpkaaGreatRef1
/- The package rosetteref00: natural numbers: NatMul, NatAdd, NatSub, NatUp. -/
namespace Go.Proofs.YtonbhpadoplpkaaGreat
open Go.RowKit Go.Deep
theorem wrap64_in {n : Nat} (h : n < W64) : IntKind.u64.wrap (n : Int) = (n : Int) := by rw [IntKind.wrap_u64]; rw [W64_eq] at h; omega
set_option maxHeartbeats 400000 in
set_option maxRecDepth 100000 in
theorem ref_product (A1 A2 : Option Addr) (l1 l2 c1 c2 : Nat) (xs ys : List Nat) (w : World) (h1 : Lim w w.heap.size A1 xs) (h2 : Lim w w.heap.size A2 ys) (tx : Tiny xs) (ty : Tiny ys) (e1 : l1 = xs.length) (e2 : l2 = ys.length) (hl1 : l1 ≤ 549755813888) (hl2 : l2 ≤ 549755813888) :
    Calls Tryz.prog 151 #[.slice A1 l1 c1, .slice A2 l2 c2] w fun e w' => ∃ A l c zs, e = .returned (.slice A l c) ∧ l = zs.length ∧ l ≤ c ∧ zs.length ≤ l1 + l2 ∧ Lim w' w'.heap.size A zs ∧ Tiny zs ∧ val32 zs = val32 xs * val32 ys ∧ Below w.heap.size w w' := by
  have E1 := Lib.hid e1
  have E2 := Lib.hid e2
  have hl1I : (l1 : Int) ≤ 549755813888 := by omega
  have hl2I : (l2 : Int) ≤ 549755813888 := by omega
  obtain ⟨m, hm⟩ : ∃ m, l1 + l2 = m := ⟨_, rfl⟩
  have hmI : (l1 : Int) + (l2 : Int) = (m : Int) := by omega
  have hmk := make_limbs m (by omega)
  have HM := Lib.hid hm
  have TX := Lib.hid tx
  have TY := Lib.hid ty
  rw [hm]
  clear e1 e2 hm hl1 hl2 tx ty
  go_enter Tryz.func151, Tryz.ntmps151
  go_wp2_with fail
  go_loopw [6] (fun t6 wr => ∃ (i : Nat) (os : List Nat), i ≤ l1 ∧ t6 = .int .i64 (i : Int) ∧ os.length = m ∧ Tiny os ∧ Row wr w.heap.size os ∧ Below w.heap.size w wr ∧ val32 os = val32 (xs.take i) * val32 ys ∧ (∀ j, i + l2 ≤ j → os.getD j 0 = 0)) (fun t6 _ => l1 - (intOf t6).toNat)
  case atStart =>
    refine ⟨0, List.replicate m 0, by omega, rfl, by simp, Tiny.zeros m, Row.made _ _, (Below.refl _ _).alloc (Nat.le_refl _) _, by rw [val32_zeros]; simp [val32], fun j _ => ?_⟩
    by_cases hj : j < m
    · simp [hj]
    · simp [hj]
  case round =>
    obtain ⟨wo, hwo⟩ : ∃ wo : World, wo = wr := ⟨_, rfl⟩
    subst hwo
    obtain ⟨i, os, hi, rfl, ho, hto, hrow, hbel, hval, hzero⟩ := hrel
    have HO := Lib.hid ho
    have HTO := Lib.hid hto
    have HV := Lib.hid hval
    have HZ := Lib.hid hzero
    clear ho hto hval hzero
    by_cases hlt : i < l1
    · have HI := Lib.hid (show i < xs.length by rw [← E1.out]; exact hlt)
      obtain ⟨x, hx⟩ : ∃ x, xs.getD i 0 = x := ⟨_, rfl⟩
      have HXT := Lib.hid (show x < W32 by rw [← hx]; exact TX.out.getD i)
      have HX := Lib.hid hx
      clear hx
      have hiI : (i : Int) < (l1 : Int) := by omega
      go_wp2_with fail
      go_loopw [7, 8] (fun t7 t8 wi => ∃ (k cy : Nat) (os' : List Nat), k ≤ l2 ∧ t7 = .int .u64 (cy : Int) ∧ t8 = .int .i64 (k : Int) ∧ cy < W32 ∧ os'.length = m ∧ Tiny os' ∧ Row wi w.heap.size os' ∧ Below w.heap.size w wi ∧ val32 os' + cy * W32 ^ (i + k) = val32 os + x * val32 (ys.take k) * W32 ^ i ∧ (∀ j, i + l2 ≤ j → os'.getD j 0 = 0)) (fun _ t8 _ => l2 - (intOf t8).toNat)
      case atStart => exact ⟨0, 0, os, by omega, rfl, rfl, W32_pos, HO.out, HTO.out, hrow, hbel, by simp [val32], HZ.out⟩
      case round =>
        clear hrow hbel
        obtain ⟨k, cy, os', hk, rfl, rfl, hcy, ho', hto', hrow, hbel, hval', hzero'⟩ := hrel
        have HO' := Lib.hid ho'
        have HTO' := Lib.hid hto'
        have HV' := Lib.hid hval'
        have HZ' := Lib.hid hzero'
        have HCY := Lib.hid hcy
        clear ho' hto' hval' hzero' hcy
        by_cases hkl : k < l2
        · have HK := Lib.hid (show k < ys.length by rw [← E2.out]; exact hkl)
          obtain ⟨ax, rfl, _, hcx⟩ := (h1.below hbel).at_ HI.out
          obtain ⟨ay, rfl, _, hcy⟩ := (h2.below hbel).at_ HK.out
          rw [HX.out] at hcx
          obtain ⟨y, hy⟩ : ∃ y, ys.getD k 0 = y := ⟨_, rfl⟩
          have HYT := Lib.hid (show y < W32 by rw [← hy]; exact TY.out.getD k)
          have HY := Lib.hid hy
          rw [hy] at hcy
          obtain ⟨d, hd⟩ : ∃ d, i + k = d := ⟨_, rfl⟩
          have hdI : (i : Int) + (k : Int) = (d : Int) := by omega
          have hdm : d < m := by have := HM.out; omega
          have hdmI : (d : Int) < (m : Int) := by omega
          have HDL := Lib.hid (show i + k < os'.length by rw [HO'.out]; omega)
          have hco := hrow.cell (k := d) (by rw [HO'.out]; exact hdm)
          have hfo := hrow.free d
          obtain ⟨o, hoo⟩ : ∃ o, os'.getD d 0 = o := ⟨_, rfl⟩
          have HOT := Lib.hid (show o < W32 by rw [← hoo]; exact HTO'.out.getD d)
          have HOO := Lib.hid hoo
          rw [hoo] at hco
          obtain ⟨p, hp⟩ : ∃ p, x * y = p := ⟨_, rfl⟩
          obtain ⟨q, hq⟩ : ∃ q, p + o = q := ⟨_, rfl⟩
          obtain ⟨s, hs⟩ : ∃ s, q + cy = s := ⟨_, rfl⟩
          have HSB := Lib.hid (show s < W64 by rw [← hs, ← hq, ← hp]; exact step_bound HXT.out HYT.out HOT.out HCY.out)
          obtain ⟨sm, hsm⟩ : ∃ sm, s % 4294967296 = sm := ⟨_, rfl⟩
          obtain ⟨sd, hsd⟩ : ∃ sd, s / 4294967296 = sd := ⟨_, rfl⟩
          have hpI : (x : Int) * (y : Int) = (p : Int) := by rw [← hp]; simp
          have hqI : (p : Int) + (o : Int) = (q : Int) := by omega
          have hsI : (q : Int) + (cy : Int) = (s : Int) := by omega
          have hsmI : (s : Int) % 4294967296 = (sm : Int) := by omega
          have hsdI : (s : Int) / 4294967296 = (sd : Int) := by omega
          have wp : IntKind.u64.wrap (p : Int) = (p : Int) := wrap64_in (by have := HSB.out; omega)
          have wq : IntKind.u64.wrap (q : Int) = (q : Int) := wrap64_in (by have := HSB.out; omega)
          have ws : IntKind.u64.wrap (s : Int) = (s : Int) := wrap64_in HSB.out
          have wm : IntKind.u64.wrap (sm : Int) = (sm : Int) := wrap64_in (by have := HSB.out; omega)
          have wd : IntKind.u64.wrap (sd : Int) = (sd : Int) := wrap64_in (by have := HSB.out; omega)
          have HSM := Lib.hid (show sm < W32 ∧ sd < W32 from ⟨by rw [← hsm, ← W32_eq]; exact Nat.mod_lt _ W32_pos, by rw [← hsd, ← W32_eq]; exact div32_lt HSB.out⟩)
          have HST := Lib.hid (show val32 (os'.set d sm) + sd * W32 ^ (d + 1) = val32 os + x * val32 (ys.take (k + 1)) * W32 ^ i by
            have h3 := prod_step (s := s) HDL.out (by rw [hd, HOO.out, HY.out, hp, hq, hs]) HV'.out (val32_take_succ ys k HK.out)
            rw [hd] at h3
            rw [← hsm, ← hsd, ← W32_eq, ← h3])
          have HDI := Lib.hid hd
          have HLEN := Lib.hid (show (os'.set d sm).length = m by rw [List.length_set, HO'.out])
          have HZ2 := Lib.hid (show ∀ j, i + l2 ≤ j → (os'.set d sm).getD j 0 = 0 from fun j hj => by
            rw [getD_set_ne _ (by omega)]; exact HZ'.out j hj)
          have HDM := Lib.hid (show d < os'.length by rw [HO'.out]; exact hdm)
          have hkI : (k : Int) < (l2 : Int) := by omega
          clear hy hd hoo hp hq hs hsm hsd
          go_wp2_with fail
          go_quiet (fail)
          go_wp2_with fail
          exact ⟨⟨k + 1, sd, os'.set d sm, by omega, rfl, by go_num, HSM.out.2, HLEN.out, HTO'.out.set _ _ HSM.out.1, (hrow.drewN _).set HDM.out (Nat.lt_trans HSM.out.1 W32_lt), (below_drewN hbel _).setCell (Nat.le_refl _) _, by rw [← Nat.add_assoc, HDI.out]; exact HST.out, HZ2.out⟩, by simp [intOf]; omega⟩
        · obtain rfl : l2 = k := by omega
          obtain ⟨d, hd⟩ : ∃ d, i + l2 = d := ⟨_, rfl⟩
          have hdI : (i : Int) + (l2 : Int) = (d : Int) := by omega
          have hdm : d < m := by have := HM.out; omega
          have hdmI : (d : Int) < (m : Int) := by omega
          have HDM := Lib.hid (show d < os'.length by rw [HO'.out]; exact hdm)
          have hco := hrow.cell (k := d) HDM.out
          have hfo := hrow.free d
          have h0 := HZ'.out d (by omega)
          rw [h0] at hco
          have HLEN := Lib.hid (show (os'.set d cy).length = m by rw [List.length_set, HO'.out])
          have HVAL := Lib.hid (show val32 (os'.set d cy) = val32 (xs.take (i + 1)) * val32 ys by
            have h1 := val32_set os' d cy HDM.out
            have h2 := HV'.out
            have h3 := HV.out
            rw [h0] at h1
            rw [List.take_of_length_le (by rw [← E2.out]; exact Nat.le_refl _), hd] at h2
            rw [val32_take_succ xs i HI.out, HX.out, Nat.add_mul, ← h3]
            have e1 : W32 ^ i * x * val32 ys = x * val32 ys * W32 ^ i := by ac_rfl
            have e2 : W32 ^ d * cy = cy * W32 ^ d := Nat.mul_comm _ _
            rw [e1]
            rw [e2] at h1
            omega)
          have HZ2 := Lib.hid (show ∀ j, i + 1 + l2 ≤ j → (os'.set d cy).getD j 0 = 0 from fun j hj => by
            rw [getD_set_ne _ (by omega)]; exact HZ'.out j (by omega))
          clear hd h0
          go_wp2_with fail
          exact ⟨⟨i + 1, os'.set d cy, by omega, by go_num, HLEN.out, HTO'.out.set _ _ HCY.out, hrow.set HDM.out (Nat.lt_trans HCY.out W32_lt), hbel.setCell (Nat.le_refl _) _, HVAL.out, HZ2.out⟩, by simp [intOf]; omega⟩
    · obtain rfl : l1 = i := by omega
      have hlim := hrow.lim (B := wo.heap.size) hrow.lt
      rw [List.take_of_length_le (by rw [← E1.out]; exact Nat.le_refl _)] at HV
      have hmB : m ≤ 1099511627776 := by have := HM.out; omega
      have HTR := Lib.hid (length_trimL_le os)
      have HMO := Lib.hid HO.out.symm
      clear hlt hi
      go_wp2_with fail
      refine (ref_low _ m m os wo hlim HMO.out (Nat.le_refl _) hmB).mono ?_
      rintro e w2 ⟨rfl, rfl⟩
      go_wp2_with fail
      go_ret
      have h5 := hlim.take (trimL os).length
      rw [← trimL_prefix] at h5
      exact ⟨_, _, _, trimL os, rfl, rfl, by have := HTR.out; have := HO.out; omega, by have := HTR.out; have := HO.out; omega, h5, HTO.out.trim, by rw [val32_trim]; exact HV.out, hbel⟩
set_option maxRecDepth 100000 in
theorem ref_mul (A1 A2 : Option Addr) (l1 l2 c1 c2 : Nat) (xs ys : List Nat) (w : World) (h1 : Lim w w.heap.size A1 xs) (h2 : Lim w w.heap.size A2 ys) (e1 : l1 = xs.length) (e2 : l2 = ys.length) (hl1 : l1 ≤ 137438953472) (hl2 : l2 ≤ 137438953472) :
    Calls Tryz.prog 118 #[.slice A1 l1 c1, .slice A2 l2 c2] w fun e w' => ∃ v, e = .returned v ∧ Own w' w.heap.size v (limbs (val xs * val ys)) ∧ Below w.heap.size w w' := by
  have E1 := Lib.hid e1
  have E2 := Lib.hid e2
  have HL := Lib.hid (And.intro hl1 hl2)
  clear e1 e2 hl1 hl2
  go_enter Tryz.func118, Tryz.ntmps118
  go_wp2_with fail
  refine (ref_halves A1 l1 c1 xs w h1 E1.out (by have := HL.out; omega)).mono ?_
  rintro e w1 ⟨v1, rfl, ho1, hb1⟩
  go_wp2_with fail
  refine (ref_halves A2 l2 c2 ys w1 ((h2.below hb1).more hb1.size) E2.out (by have := HL.out; omega)).mono ?_
  rintro e w2 ⟨v2, rfl, ho2, hb2⟩
  obtain ⟨A3, c3, rfl, hc3, hlim3, _⟩ := (ho1.below hb2).form
  obtain ⟨A4, c4, rfl, hc4, hlim4, _⟩ := ho2.form
  have D1 := dig_length xs
  have D2 := dig_length ys
  have HV := Lib.hid (show val32 (dig xs) = val xs ∧ val32 (dig ys) = val ys from ⟨val32_dig xs, val32_dig ys⟩)
  have HT := (show Tiny (dig xs) ∧ Tiny (dig ys) from ⟨tiny_dig h1.small, tiny_dig h2.small⟩)
  generalize dig xs = dx at hlim3 HV HT D1 ⊢
  generalize dig ys = dy at hlim4 HV HT D2 ⊢
  have HTX := Lib.hid HT.1
  have HTY := Lib.hid HT.2
  obtain ⟨lx, hlx⟩ : ∃ lx, dx.length = lx := ⟨_, rfl⟩
  obtain ⟨ly, hly⟩ : ∃ ly, dy.length = ly := ⟨_, rfl⟩
  rw [hlx] at D1 ⊢
  rw [hly] at D2 ⊢
  have HLX := Lib.hid hlx.symm
  have HLY := Lib.hid hly.symm
  have HBB := Lib.hid (show lx ≤ 274877906944 ∧ ly ≤ 274877906944 by have := HL.out; have := E1.out; have := E2.out; omega)
  clear ho1 ho2 D1 D2 HT hlx hly hc3 hc4
  go_wp2_with fail
  refine (ref_product A3 A4 lx ly c3 c4 dx dy w2 hlim3 hlim4 HTX.out HTY.out HLX.out HLY.out (by have := HBB.out; omega) (by have := HBB.out; omega)).mono ?_
  rintro e w3 ⟨A5, l5, c5, zs, rfl, hl5, hlc5, hzl, hlim5, hzt, hzv, hb3⟩
  have HL5 := Lib.hid hl5
  have HZL := Lib.hid (show l5 ≤ 1099511627776 by have := HBB.out; omega)
  clear hl5 hzl hlc5
  go_wp2_with fail
  refine (ref_limbs A5 l5 c5 zs w3 hlim5 hzt HL5.out HZL.out).mono ?_
  rintro e w4 ⟨v, rfl, ho, hb4⟩
  have hb := (hb1.trans (hb2.mono hb1.size)).trans (hb3.mono (Nat.le_trans hb1.size hb2.size))
  go_wp2_with fail
  go_ret
  rw [hzv, HV.out.1, HV.out.2] at ho
  exact ⟨v, rfl, ho.mono hb.size, hb.trans (hb4.mono hb.size)⟩
set_option maxHeartbeats 800000 in
set_option maxRecDepth 100000 in
theorem ref_add (A1 A2 : Option Addr) (l1 l2 c1 c2 : Nat) (xs ys : List Nat) (w : World) (h1 : Lim w w.heap.size A1 xs) (h2 : Lim w w.heap.size A2 ys) (e1 : l1 = xs.length) (e2 : l2 = ys.length) (hl1 : l1 ≤ 137438953472) (hl2 : l2 ≤ 137438953472) :
    Calls Tryz.prog 93 #[.slice A1 l1 c1, .slice A2 l2 c2] w fun e w' => ∃ v, e = .returned v ∧ Own w' w.heap.size v (limbs (val xs + val ys)) ∧ Below w.heap.size w w' := by
  have E1 := Lib.hid e1
  have E2 := Lib.hid e2
  have HL := Lib.hid (And.intro hl1 hl2)
  clear e1 e2 hl1 hl2
  go_enter Tryz.func93, Tryz.ntmps93
  go_wp2_with fail
  refine (ref_halves A1 l1 c1 xs w h1 E1.out (by have := HL.out; omega)).mono ?_
  rintro e w1 ⟨v1, rfl, ho1, hb1⟩
  go_wp2_with fail
  refine (ref_halves A2 l2 c2 ys w1 ((h2.below hb1).more hb1.size) E2.out (by have := HL.out; omega)).mono ?_
  rintro e w2 ⟨v2, rfl, ho2, hb2⟩
  obtain ⟨A3, c3, rfl, hc3, hlim3, _⟩ := (ho1.below hb2).form
  obtain ⟨A4, c4, rfl, hc4, hlim4, _⟩ := ho2.form
  have hb12 := hb1.trans (hb2.mono hb1.size)
  have D1 := dig_length xs
  have D2 := dig_length ys
  have HV := Lib.hid (show val32 (dig xs) = val xs ∧ val32 (dig ys) = val ys from ⟨val32_dig xs, val32_dig ys⟩)
  have HT := (show Tiny (dig xs) ∧ Tiny (dig ys) from ⟨tiny_dig h1.small, tiny_dig h2.small⟩)
  generalize dig xs = dx at hlim3 HV HT D1 ⊢
  generalize dig ys = dy at hlim4 HV HT D2 ⊢
  have HTX := Lib.hid HT.1
  have HTY := Lib.hid HT.2
  obtain ⟨lx, hlx⟩ : ∃ lx, dx.length = lx := ⟨_, rfl⟩
  obtain ⟨ly, hly⟩ : ∃ ly, dy.length = ly := ⟨_, rfl⟩
  rw [hlx] at D1 ⊢
  rw [hly] at D2 ⊢
  have HLX := Lib.hid hlx
  have HLY := Lib.hid hly
  have hlxI : (lx : Int) ≤ 274877906944 := by have := HL.out; have := E1.out; omega
  have hlyI : (ly : Int) ≤ 274877906944 := by have := HL.out; have := E2.out; omega
  clear ho1 ho2 D1 D2 HT hlx hly hc3 hc4 h1 h2 hb1 hb2
  go_wp2_with fail
  go_loopw [7, 8, 9] (fun t7 t8 t9 wr => ∃ (i cy : Nat) (os : List Nat), i ≤ max lx ly + 1 ∧ (max lx ly < i → cy = 0) ∧ t8 = .int .u64 (cy : Int) ∧ t9 = .int .i64 (i : Int) ∧ cy ≤ 1 ∧ os.length = i ∧ Tiny os ∧ Own wr w2.heap.size t7 os ∧ Below w2.heap.size w2 wr ∧ val32 os + cy * W32 ^ i = val32 (dx.take i) + val32 (dy.take i)) (fun _ _ t9 _ => max lx ly + 1 - (intOf t9).toNat)
  case atStart => exact ⟨0, 0, [], by omega, fun _ => rfl, rfl, rfl, by omega, rfl, Tiny.nil, Own.nil _ _, Below.refl _ _, by simp [val32]⟩
  case round =>
    obtain ⟨i, cy, os, hi, hcz, rfl, rfl, hcy, ho, hto, hown, hbel, hval⟩ := hrel
    obtain ⟨A7, k7, c7, rfl⟩ := hown.slice
    have HO := Lib.hid ho
    have HTO := Lib.hid hto
    have HV2 := Lib.hid hval
    have HCZ := Lib.hid hcz
    have HCY := Lib.hid hcy
    have HI := Lib.hid hi
    clear ho hto hval hcz hcy hi
    by_cases hgo : i < lx ∨ i < ly ∨ 0 < cy
    · have hcases : ((i : Int) < (lx : Int)) ∨ ((lx : Int) ≤ (i : Int) ∧ (i : Int) < (ly : Int)) ∨ ((lx : Int) ≤ (i : Int) ∧ (ly : Int) ≤ (i : Int) ∧ (0 : Int) < (cy : Int)) := by omega
      have HGO := Lib.hid hgo
      obtain ⟨x, hx⟩ : ∃ x, dx.getD i 0 = x := ⟨_, rfl⟩
      obtain ⟨y, hy⟩ : ∃ y, dy.getD i 0 = y := ⟨_, rfl⟩
      have HXY := Lib.hid (show x < W32 ∧ y < W32 from ⟨by rw [← hx]; exact HTX.out.getD i, by rw [← hy]; exact HTY.out.getD i⟩)
      have HX := Lib.hid hx
      have HY := Lib.hid hy
      obtain ⟨p, hp⟩ : ∃ p, x + y = p := ⟨_, rfl⟩
      obtain ⟨s, hs⟩ : ∃ s, p + cy = s := ⟨_, rfl⟩
      have HS4 := Lib.hid (show s < 8589934592 by have := HXY.out; rw [W32_eq] at this; have := HCY.out; omega)
      obtain ⟨sm, hsm⟩ : ∃ sm, s % 4294967296 = sm := ⟨_, rfl⟩
      obtain ⟨sd, hsd⟩ : ∃ sd, s / 4294967296 = sd := ⟨_, rfl⟩
      have hpI : (x : Int) + (y : Int) = (p : Int) := by omega
      have hsI : (p : Int) + (cy : Int) = (s : Int) := by omega
      have hsmI : (s : Int) % 4294967296 = (sm : Int) := by omega
      have hsdI : (s : Int) / 4294967296 = (sd : Int) := by omega
      have wp : IntKind.u64.wrap (p : Int) = (p : Int) := wrap64_in (by have := HS4.out; rw [W64_eq]; omega)
      have ws : IntKind.u64.wrap (s : Int) = (s : Int) := wrap64_in (by have := HS4.out; rw [W64_eq]; omega)
      have wm : IntKind.u64.wrap (sm : Int) = (sm : Int) := wrap64_in (by have := HS4.out; rw [W64_eq]; omega)
      have wd : IntKind.u64.wrap (sd : Int) = (sd : Int) := wrap64_in (by have := HS4.out; rw [W64_eq]; omega)
      have HSM := Lib.hid (show sm < W32 ∧ sm < W64 ∧ sd ≤ 1 from ⟨by rw [← hsm, ← W32_eq]; exact Nat.mod_lt _ W32_pos, by rw [W64_eq]; omega, by have := HS4.out; omega⟩)
      have HST := Lib.hid (show val32 (os ++ [sm]) + sd * W32 ^ (i + 1) = val32 (dx.take (i + 1)) + val32 (dy.take (i + 1)) by
        have h3 := add_step (P := W32 ^ i) (x := x) (y := y) (s := s) HV2.out (by omega)
        rw [val32_take_step, val32_take_step, val32_snoc, HO.out, HX.out, HY.out, ← hsm, ← hsd, Nat.pow_succ, ← W32_eq]
        exact h3)
      have HNext := Lib.hid (show i + 1 ≤ max lx ly + 1 ∧ (max lx ly < i + 1 → sd = 0) from by
        have hg := HGO.out
        have hc0 := HCZ.out
        refine ⟨by omega, fun hlt => ?_⟩
        have hx0 : x = 0 := by rw [← hx]; simp [show dx[i]? = none from List.getElem?_eq_none (by rw [HLX.out]; omega)]
        have hy0 : y = 0 := by rw [← hy]; simp [show dy[i]? = none from List.getElem?_eq_none (by rw [HLY.out]; omega)]
        have := HCY.out
        omega)
      have HLE := Lib.hid (show os.length + 1 ≤ 17592186044416 by rw [HO.out]; have := HI.out; omega)
      have hlim3' := hlim3.below hbel
      have hlim4' := hlim4.below hbel
      have hiI : (i : Int) ≤ 274877906945 := by have := HI.out; omega
      clear hgo hx hy hp hs hsm hsd
      rcases hcases with hA | ⟨hA, hB⟩ | ⟨hA, hB, hC⟩
      all_goals
        go_wp2_with fail
        refine (ref_digit A3 lx c3 i dx _ hlim3' HLX.out.symm).mono ?_
        rintro e w3 ⟨rfl, rfl⟩
        rw [HX.out]
        go_wp2_with fail
        refine (ref_digit A4 ly c4 i dy _ hlim4' HLY.out.symm).mono ?_
        rintro e w3 ⟨rfl, rfl⟩
        rw [HY.out]
        go_wp2_with (at_builtin; refine append_one (w0 := w2) w2.heap.size rfl _ _ rfl _ os sm (by rfl) (by rfl) HSM.out.2.1 hown hbel hbel.size HLE.out ?_)
        intro v3 w3 hown1 hbel1 _
        go_wp2_with fail
        have hiI2 := HI.out
        exact ⟨⟨i + 1, sd, os ++ [sm], HNext.out.1, HNext.out.2, rfl, by go_num, HSM.out.2.2, by rw [List.length_append, HO.out]; rfl, HTO.out.append (Tiny.one HSM.out.1), hown1, hbel1, HST.out⟩, by have := HNext.out.1; simp [intOf]; omega⟩
    · have hA : (lx : Int) ≤ (i : Int) := by omega
      have hB : (ly : Int) ≤ (i : Int) := by omega
      obtain rfl : cy = 0 := by omega
      have HF := Lib.hid (show val32 os = val xs + val ys by
        have h3 := HV2.out
        rw [List.take_of_length_le (by rw [HLX.out]; omega), List.take_of_length_le (by rw [HLY.out]; omega), HV.out.1, HV.out.2] at h3
        omega)
      obtain ⟨A8, c8, e8, hc8, hlim8, _⟩ := hown.form
      injection e8 with e81 e82 e83
      subst e81 e82 e83
      have HLEN := Lib.hid (show os.length ≤ 1099511627776 by rw [HO.out]; have := HI.out; omega)
      clear hgo hown hc8
      go_wp2_with fail
      refine (ref_limbs A7 os.length c7 os wr hlim8 HTO.out rfl HLEN.out).mono ?_
      rintro e w4 ⟨v, rfl, ho4, hb4⟩
      have hb := hb12.trans (hbel.mono hb12.size)
      go_wp2_with fail
      go_ret
      rw [HF.out] at ho4
      exact ⟨v, rfl, ho4.mono hb.size, hb.trans (hb4.mono hb.size)⟩
set_option maxHeartbeats 800000 in
set_option maxRecDepth 100000 in
theorem ref_sub (A1 A2 : Option Addr) (l1 l2 c1 c2 : Nat) (xs ys : List Nat) (w : World) (h1 : Lim w w.heap.size A1 xs) (h2 : Lim w w.heap.size A2 ys) (e1 : l1 = xs.length) (e2 : l2 = ys.length) (hl1 : l1 ≤ 137438953472) (hl2 : l2 ≤ 137438953472) (hle : val ys ≤ val xs) :
    Calls Tryz.prog 95 #[.slice A1 l1 c1, .slice A2 l2 c2] w fun e w' => ∃ v, e = .returned v ∧ Own w' w.heap.size v (limbs (val xs - val ys)) ∧ Below w.heap.size w w' := by
  have E1 := Lib.hid e1
  have E2 := Lib.hid e2
  have HL := Lib.hid (And.intro hl1 hl2)
  clear e1 e2 hl1 hl2
  go_enter Tryz.func95, Tryz.ntmps95
  go_wp2_with fail
  refine (ref_halves A1 l1 c1 xs w h1 E1.out (by have := HL.out; omega)).mono ?_
  rintro e w1 ⟨v1, rfl, ho1, hb1⟩
  go_wp2_with fail
  refine (ref_halves A2 l2 c2 ys w1 ((h2.below hb1).more hb1.size) E2.out (by have := HL.out; omega)).mono ?_
  rintro e w2 ⟨v2, rfl, ho2, hb2⟩
  obtain ⟨A3, c3, rfl, hc3, hlim3, _⟩ := (ho1.below hb2).form
  obtain ⟨A4, c4, rfl, hc4, hlim4, _⟩ := ho2.form
  have hb12 := hb1.trans (hb2.mono hb1.size)
  have D1 := dig_length xs
  have D2 := dig_length ys
  have HN := Lib.hid (show (dig ys).length ≤ (dig xs).length from norm_len (norm_dig ys) (Nat.lt_of_le_of_lt (by rw [val32_dig, ← val32_dig xs] at *; exact hle) (val32_lt (tiny_dig h1.small))))
  have HV := Lib.hid (show val32 (dig xs) = val xs ∧ val32 (dig ys) = val ys from ⟨val32_dig xs, val32_dig ys⟩)
  have HT := (show Tiny (dig xs) ∧ Tiny (dig ys) from ⟨tiny_dig h1.small, tiny_dig h2.small⟩)
  generalize dig xs = dx at hlim3 HV HT D1 HN ⊢
  generalize dig ys = dy at hlim4 HV HT D2 HN ⊢
  have HTX := Lib.hid HT.1
  have HTY := Lib.hid HT.2
  obtain ⟨lx, hlx⟩ : ∃ lx, dx.length = lx := ⟨_, rfl⟩
  obtain ⟨ly, hly⟩ : ∃ ly, dy.length = ly := ⟨_, rfl⟩
  rw [hlx] at D1 HN ⊢
  rw [hly] at D2 HN ⊢
  have HLX := Lib.hid hlx
  have HLY := Lib.hid hly
  have HLE0 := Lib.hid hle
  have hlxI : (lx : Int) ≤ 274877906944 := by have := HL.out; have := E1.out; omega
  clear ho1 ho2 D1 D2 HT hlx hly hc3 hc4 h1 h2 hb1 hb2 hle
  go_wp2_with fail
  go_loopw [7, 8, 9] (fun t7 t8 t9 wr => ∃ (i cy : Nat) (os : List Nat), i ≤ lx ∧ t8 = .int .u64 (cy : Int) ∧ t9 = .int .i64 (i : Int) ∧ cy ≤ 1 ∧ os.length = i ∧ Tiny os ∧ Own wr w2.heap.size t7 os ∧ Below w2.heap.size w2 wr ∧ val32 os + val32 (dy.take i) = val32 (dx.take i) + cy * W32 ^ i) (fun _ _ t9 _ => lx - (intOf t9).toNat)
  case atStart => exact ⟨0, 0, [], by omega, rfl, rfl, by omega, rfl, Tiny.nil, Own.nil _ _, Below.refl _ _, by simp [val32]⟩
  case round =>
    obtain ⟨i, cy, os, hi, rfl, rfl, hcy, ho, hto, hown, hbel, hval⟩ := hrel
    obtain ⟨A7, k7, c7, rfl⟩ := hown.slice
    have HO := Lib.hid ho
    have HTO := Lib.hid hto
    have HV2 := Lib.hid hval
    have HCY := Lib.hid hcy
    clear ho hto hval hcy
    by_cases hgo : i < lx
    · have hgoI : (i : Int) < (lx : Int) := by omega
      have HIX := Lib.hid (show i < dx.length by rw [HLX.out]; exact hgo)
      obtain ⟨ad, rfl, _, hc⟩ := (hlim3.below hbel).at_ HIX.out
      obtain ⟨x, hx⟩ : ∃ x, dx.getD i 0 = x := ⟨_, rfl⟩
      rw [hx] at hc
      obtain ⟨y, hy⟩ : ∃ y, dy.getD i 0 = y := ⟨_, rfl⟩
      have HXY := Lib.hid (show x < W32 ∧ y < W32 from ⟨by rw [← hx]; exact HTX.out.getD i, by rw [← hy]; exact HTY.out.getD i⟩)
      have HX := Lib.hid hx
      have HY := Lib.hid hy
      obtain ⟨p, hp⟩ : ∃ p, 4294967296 + x = p := ⟨_, rfl⟩
      have hb32 := HXY.out
      rw [W32_eq] at hb32
      have hcy1 := HCY.out
      obtain ⟨q, hq⟩ : ∃ q, p - y = q := ⟨_, rfl⟩
      obtain ⟨s, hs⟩ : ∃ s, q - cy = s := ⟨_, rfl⟩
      obtain ⟨sm, hsm⟩ : ∃ sm, s % 4294967296 = sm := ⟨_, rfl⟩
      obtain ⟨sd, hsd⟩ : ∃ sd, s / 4294967296 = sd := ⟨_, rfl⟩
      obtain ⟨t, ht⟩ : ∃ t, 1 - sd = t := ⟨_, rfl⟩
      have HS4 := Lib.hid (show p < 8589934592 ∧ q < 8589934592 ∧ s < 8589934592 ∧ sd ≤ 1 by omega)
      have hpI : (4294967296 : Int) + (x : Int) = (p : Int) := by omega
      have hqI : (p : Int) - (y : Int) = (q : Int) := by omega
      have hsI : (q : Int) - (cy : Int) = (s : Int) := by omega
      have hsmI : (s : Int) % 4294967296 = (sm : Int) := by omega
      have hsdI : (s : Int) / 4294967296 = (sd : Int) := by omega
      have htI : (1 : Int) - (sd : Int) = (t : Int) := by omega
      have wp : IntKind.u64.wrap (p : Int) = (p : Int) := wrap64_in (by have := HS4.out; rw [W64_eq]; omega)
      have wq : IntKind.u64.wrap (q : Int) = (q : Int) := wrap64_in (by have := HS4.out; rw [W64_eq]; omega)
      have ws : IntKind.u64.wrap (s : Int) = (s : Int) := wrap64_in (by have := HS4.out; rw [W64_eq]; omega)
      have wm : IntKind.u64.wrap (sm : Int) = (sm : Int) := wrap64_in (by have := HS4.out; rw [W64_eq]; omega)
      have wd : IntKind.u64.wrap (sd : Int) = (sd : Int) := wrap64_in (by have := HS4.out; rw [W64_eq]; omega)
      have wt : IntKind.u64.wrap (t : Int) = (t : Int) := wrap64_in (by have := HS4.out; rw [W64_eq]; omega)
      have HSM := Lib.hid (show sm < W32 ∧ sm < W64 ∧ t ≤ 1 from ⟨by rw [← hsm, ← W32_eq]; exact Nat.mod_lt _ W32_pos, by rw [W64_eq]; omega, by omega⟩)
      have HST := Lib.hid (show val32 (os ++ [sm]) + val32 (dy.take (i + 1)) = val32 (dx.take (i + 1)) + t * W32 ^ (i + 1) by
        have h3 := (sub_step (P := W32 ^ i) (x := x) (y := y) (s := s) (t := t) HV2.out (by rw [W32_eq]; omega) HCY.out HXY.out.1 (by rw [W32_eq, hsd, ht])).1
        rw [val32_take_step, val32_take_step, val32_snoc, HO.out, HX.out, HY.out, ← hsm, Nat.pow_succ, ← W32_eq]
        exact h3)
      have HLE := Lib.hid (show os.length + 1 ≤ 17592186044416 by rw [HO.out]; omega)
      have HLI := Lib.hid (hlim4.below hbel)
      have r1 := later_cell hc
      clear hx hy hp hq hs hsm hsd ht hb32 hcy1 hc
      go_wp2_with fail
      refine wp_region_stages (fun w' => ∃ δ : Later Nix wr, w' = δ.world) [(false, 0), (false, 1), (false, 2), (false, 3), (false, 4), (false, 5), (false, 6), (false, 9), (true, 7), (false, 8)] 10 [.reads [_, _, _, _, _, _, _, _], .loud _, .reads [_]] [_, _] (by kernel_rfl) (by kernel_rfl) rfl rfl ?_ ?_
      · exact ⟨⟨_, nix_drawn wr⟩, rfl⟩
      refine wpStages_reads ?_
      repeat (go_big_quiet_step (fail))
      refine wpQuiet_nil ?_
      refine wpStages_loud rfl ?_
      intro K hK
      go_big_op
      refine (ref_digit A4 ly c4 i dy (wr.drewN 1) (HLI.out.drewN 1) HLY.out.symm).mono ?_
      rintro e w3 ⟨rfl, rfl⟩
      rw [HY.out]
      refine hK _ _ ⟨⟨_, nix_drawn wr⟩, rfl⟩ ?_
      clear hK K
      refine wpStages_reads ?_
      repeat (go_big_quiet_step (fail))
      refine wpQuiet_nil ?_
      refine wpStages_nil ?_
      go_wp2_with (at_builtin; refine append_one (w0 := w2) w2.heap.size rfl _ _ rfl _ os sm (by rfl) (by rfl) HSM.out.2.1 (hown.below (below_drewN (Below.refl _ wr) 1)) (below_drewN hbel 1) hbel.size HLE.out ?_)
      intro v3 w3 hown1 hbel1 _
      go_wp2_with fail
      exact ⟨⟨i + 1, t, os ++ [sm], by omega, rfl, by go_num, HSM.out.2.2, by rw [List.length_append, HO.out]; rfl, HTO.out.append (Tiny.one HSM.out.1), hown1, hbel1, HST.out⟩, by simp [intOf]; omega⟩
    · obtain rfl : lx = i := by omega
      have HF := Lib.hid (show val32 os = val xs - val ys by
        have h3 := HV2.out
        rw [List.take_of_length_le (by rw [HLY.out]; exact HN.out), List.take_of_length_le (by rw [HLX.out]; exact Nat.le_refl _), HV.out.1, HV.out.2] at h3
        exact sub_end h3 HCY.out (by have h4 := val32_lt HTO.out; rwa [HO.out] at h4) HLE0.out)
      obtain ⟨A8, c8, e8, hc8, hlim8, _⟩ := hown.form
      injection e8 with e81 e82 e83
      subst e81 e82 e83
      have HLEN := Lib.hid (show os.length ≤ 1099511627776 by rw [HO.out]; omega)
      clear hgo hown hc8
      go_wp2_with fail
      refine (ref_limbs A7 os.length c7 os wr hlim8 HTO.out rfl HLEN.out).mono ?_
      rintro e w4 ⟨v, rfl, ho4, hb4⟩
      have hb := hb12.trans (hbel.mono hb12.size)
      go_wp2_with fail
      go_ret
      rw [HF.out] at ho4
      exact ⟨v, rfl, ho4.mono hb.size, hb.trans (hb4.mono hb.size)⟩
end Go.Proofs.YtonbhpadoplpkaaGreat
