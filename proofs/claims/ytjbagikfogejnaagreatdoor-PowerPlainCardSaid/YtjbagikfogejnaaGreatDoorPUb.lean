import Derived.Test.YtjbagikfogejnaaGreatDoorPUa
import Derived.Test.YtjbagikfogejnaaGreatDoorProg
import Derived.WalkKit
import Derived.Laws.OwnMore
import Derived.Deep.Draws
import Derived.Deep.OwnRows
import Derived.Deep.LoopGhost
import Derived.Deep.QuietTactic
import Derived.BigQuiet
import Derived.Lib.Hide
import Derived.Maps.AppendAt
import Derived.Laws.Rows
import Derived.OneCell
import Derived.Shelf.Spec.BitsCarry
import Derived.Deep.DeepCutAuto
import Derived.Shelf.Small.Bits
import Derived.Shelf.Strconv.Itoa0
import Derived.Shelf.Bits.Mul64
import Derived.Lib.BitFns
import Derived.Deep.CutBlock
import Derived.BigRegion
import Derived.StillTailTactics
import Derived.Deep.AppendLies
import Derived.Orders
import Derived.Lib.SliceRun
import Derived.Deep.MidRow
import Derived.BigCall
import Derived.Laws.AppendOwn
import Derived.Great.BuildSlice
import Derived.Laws.Append
import Derived.Deep.RegionWith
import Derived.WalkMore
import Derived.Laws.EntriesVeiled
import Derived.Laws.CopyOwn
import Derived.Scope
import Derived.Test.YtjbagikfogejnaaGreatDoorRows
import Derived.ProofKit
import Derived.OpenShut
import Derived.Deep.SlicePairs
import Derived.WideKeyArgs
import Derived.Test.YtjbagikfogejnaaGreatDoorCards
import Derived.Test.YtjbagikfogejnaaGreatDoorTie
import Derived.LaidMore
import Derived.Stop.Joined
import Derived.SevenTiedAt
/- Of: Ref3, Ref4, Ref6, RootP, R18, Stay, BoxN, Gl, Plan2, Plan3, Abs, Abs2, Abs3, Abs4, Abs5. -/
/- The package rosetteref00: natural numbers: NatMul, NatAdd, NatSub, NatUp. -/
namespace Go.Proofs.YtjbagikfogejnaaGreatDoor
open Go.RowKit Go.Deep
theorem wrap64_in {n : Nat} (h : n < W64) : IntKind.u64.wrap (n : Int) = (n : Int) := by rw [IntKind.wrap_u64]; rw [W64_eq] at h; omega
set_option maxHeartbeats 400000 in
set_option maxRecDepth 100000 in
theorem ref_product (A1 A2 : Option Addr) (l1 l2 c1 c2 : Nat) (xs ys : List Nat) (w : World) (h1 : Lim w w.heap.size A1 xs) (h2 : Lim w w.heap.size A2 ys) (tx : Tiny xs) (ty : Tiny ys) (e1 : l1 = xs.length) (e2 : l2 = ys.length) (hl1 : l1 ≤ 549755813888) (hl2 : l2 ≤ 549755813888) :
    Calls Tryz.prog 117 #[.slice A1 l1 c1, .slice A2 l2 c2] w fun e w' => ∃ A l c zs, e = .returned (.slice A l c) ∧ l = zs.length ∧ l ≤ c ∧ zs.length ≤ l1 + l2 ∧ Lim w' w'.heap.size A zs ∧ Tiny zs ∧ val32 zs = val32 xs * val32 ys ∧ Below w.heap.size w w' := by
  have E1 := Lib.hid e1
  have E2 := Lib.hid e2
  have hl1I : (l1 : Int) ≤ 549755813888 := by omega
  have hl2I : (l2 : Int) ≤ 549755813888 := by omega
  obtain ⟨m, hm⟩ : ∃ m, l1 + l2 = m := ⟨_, rfl⟩
  have hmI : (l1 : Int) + (l2 : Int) = (m : Int) := by omega
  have hmk := make_limbs m (by omega)
  have HM := Lib.hid hm
  have TX := Lib.hid tx
  have TY := Lib.hid ty
  rw [hm]
  clear e1 e2 hm hl1 hl2 tx ty
  go_enter Tryz.func117, Tryz.ntmps117
  go_wp2_with fail
  go_loopw [6] (fun t6 wr => ∃ (i : Nat) (os : List Nat), i ≤ l1 ∧ t6 = .int .i64 (i : Int) ∧ os.length = m ∧ Tiny os ∧ Row wr w.heap.size os ∧ Below w.heap.size w wr ∧ val32 os = val32 (xs.take i) * val32 ys ∧ (∀ j, i + l2 ≤ j → os.getD j 0 = 0)) (fun t6 _ => l1 - (intOf t6).toNat)
  case atStart =>
    refine ⟨0, List.replicate m 0, by omega, rfl, by simp, Tiny.zeros m, Row.made _ _, (Below.refl _ _).alloc (Nat.le_refl _) _, by rw [val32_zeros]; simp [val32], fun j _ => ?_⟩
    by_cases hj : j < m
    · simp [hj]
    · simp [hj]
  case round =>
    obtain ⟨wo, hwo⟩ : ∃ wo : World, wo = wr := ⟨_, rfl⟩
    subst hwo
    obtain ⟨i, os, hi, rfl, ho, hto, hrow, hbel, hval, hzero⟩ := hrel
    have HO := Lib.hid ho
    have HTO := Lib.hid hto
    have HV := Lib.hid hval
    have HZ := Lib.hid hzero
    clear ho hto hval hzero
    by_cases hlt : i < l1
    · have HI := Lib.hid (show i < xs.length by rw [← E1.out]; exact hlt)
      obtain ⟨x, hx⟩ : ∃ x, xs.getD i 0 = x := ⟨_, rfl⟩
      have HXT := Lib.hid (show x < W32 by rw [← hx]; exact TX.out.getD i)
      have HX := Lib.hid hx
      clear hx
      have hiI : (i : Int) < (l1 : Int) := by omega
      go_wp2_with fail
      go_loopw [7, 8] (fun t7 t8 wi => ∃ (k cy : Nat) (os' : List Nat), k ≤ l2 ∧ t7 = .int .u64 (cy : Int) ∧ t8 = .int .i64 (k : Int) ∧ cy < W32 ∧ os'.length = m ∧ Tiny os' ∧ Row wi w.heap.size os' ∧ Below w.heap.size w wi ∧ val32 os' + cy * W32 ^ (i + k) = val32 os + x * val32 (ys.take k) * W32 ^ i ∧ (∀ j, i + l2 ≤ j → os'.getD j 0 = 0)) (fun _ t8 _ => l2 - (intOf t8).toNat)
      case atStart => exact ⟨0, 0, os, by omega, rfl, rfl, W32_pos, HO.out, HTO.out, hrow, hbel, by simp [val32], HZ.out⟩
      case round =>
        clear hrow hbel
        obtain ⟨k, cy, os', hk, rfl, rfl, hcy, ho', hto', hrow, hbel, hval', hzero'⟩ := hrel
        have HO' := Lib.hid ho'
        have HTO' := Lib.hid hto'
        have HV' := Lib.hid hval'
        have HZ' := Lib.hid hzero'
        have HCY := Lib.hid hcy
        clear ho' hto' hval' hzero' hcy
        by_cases hkl : k < l2
        · have HK := Lib.hid (show k < ys.length by rw [← E2.out]; exact hkl)
          obtain ⟨ax, rfl, _, hcx⟩ := (h1.below hbel).at_ HI.out
          obtain ⟨ay, rfl, _, hcy⟩ := (h2.below hbel).at_ HK.out
          rw [HX.out] at hcx
          obtain ⟨y, hy⟩ : ∃ y, ys.getD k 0 = y := ⟨_, rfl⟩
          have HYT := Lib.hid (show y < W32 by rw [← hy]; exact TY.out.getD k)
          have HY := Lib.hid hy
          rw [hy] at hcy
          obtain ⟨d, hd⟩ : ∃ d, i + k = d := ⟨_, rfl⟩
          have hdI : (i : Int) + (k : Int) = (d : Int) := by omega
          have hdm : d < m := by have := HM.out; omega
          have hdmI : (d : Int) < (m : Int) := by omega
          have HDL := Lib.hid (show i + k < os'.length by rw [HO'.out]; omega)
          have hco := hrow.cell (k := d) (by rw [HO'.out]; exact hdm)
          have hfo := hrow.free d
          obtain ⟨o, hoo⟩ : ∃ o, os'.getD d 0 = o := ⟨_, rfl⟩
          have HOT := Lib.hid (show o < W32 by rw [← hoo]; exact HTO'.out.getD d)
          have HOO := Lib.hid hoo
          rw [hoo] at hco
          obtain ⟨p, hp⟩ : ∃ p, x * y = p := ⟨_, rfl⟩
          obtain ⟨q, hq⟩ : ∃ q, p + o = q := ⟨_, rfl⟩
          obtain ⟨s, hs⟩ : ∃ s, q + cy = s := ⟨_, rfl⟩
          have HSB := Lib.hid (show s < W64 by rw [← hs, ← hq, ← hp]; exact step_bound HXT.out HYT.out HOT.out HCY.out)
          obtain ⟨sm, hsm⟩ : ∃ sm, s % 4294967296 = sm := ⟨_, rfl⟩
          obtain ⟨sd, hsd⟩ : ∃ sd, s / 4294967296 = sd := ⟨_, rfl⟩
          have hpI : (x : Int) * (y : Int) = (p : Int) := by rw [← hp]; simp
          have hqI : (p : Int) + (o : Int) = (q : Int) := by omega
          have hsI : (q : Int) + (cy : Int) = (s : Int) := by omega
          have hsmI : (s : Int) % 4294967296 = (sm : Int) := by omega
          have hsdI : (s : Int) / 4294967296 = (sd : Int) := by omega
          have wp : IntKind.u64.wrap (p : Int) = (p : Int) := wrap64_in (by have := HSB.out; omega)
          have wq : IntKind.u64.wrap (q : Int) = (q : Int) := wrap64_in (by have := HSB.out; omega)
          have ws : IntKind.u64.wrap (s : Int) = (s : Int) := wrap64_in HSB.out
          have wm : IntKind.u64.wrap (sm : Int) = (sm : Int) := wrap64_in (by have := HSB.out; omega)
          have wd : IntKind.u64.wrap (sd : Int) = (sd : Int) := wrap64_in (by have := HSB.out; omega)
          have HSM := Lib.hid (show sm < W32 ∧ sd < W32 from ⟨by rw [← hsm, ← W32_eq]; exact Nat.mod_lt _ W32_pos, by rw [← hsd, ← W32_eq]; exact div32_lt HSB.out⟩)
          have HST := Lib.hid (show val32 (os'.set d sm) + sd * W32 ^ (d + 1) = val32 os + x * val32 (ys.take (k + 1)) * W32 ^ i by
            have h3 := prod_step (s := s) HDL.out (by rw [hd, HOO.out, HY.out, hp, hq, hs]) HV'.out (val32_take_succ ys k HK.out)
            rw [hd] at h3
            rw [← hsm, ← hsd, ← W32_eq, ← h3])
          have HDI := Lib.hid hd
          have HLEN := Lib.hid (show (os'.set d sm).length = m by rw [List.length_set, HO'.out])
          have HZ2 := Lib.hid (show ∀ j, i + l2 ≤ j → (os'.set d sm).getD j 0 = 0 from fun j hj => by
            rw [getD_set_ne _ (by omega)]; exact HZ'.out j hj)
          have HDM := Lib.hid (show d < os'.length by rw [HO'.out]; exact hdm)
          have hkI : (k : Int) < (l2 : Int) := by omega
          clear hy hd hoo hp hq hs hsm hsd
          go_wp2_with fail
          go_quiet (fail)
          go_wp2_with fail
          exact ⟨⟨k + 1, sd, os'.set d sm, by omega, rfl, by go_num, HSM.out.2, HLEN.out, HTO'.out.set _ _ HSM.out.1, (hrow.drewN _).set HDM.out (Nat.lt_trans HSM.out.1 W32_lt), (below_drewN hbel _).setCell (Nat.le_refl _) _, by rw [← Nat.add_assoc, HDI.out]; exact HST.out, HZ2.out⟩, by simp [intOf]; omega⟩
        · obtain rfl : l2 = k := by omega
          obtain ⟨d, hd⟩ : ∃ d, i + l2 = d := ⟨_, rfl⟩
          have hdI : (i : Int) + (l2 : Int) = (d : Int) := by omega
          have hdm : d < m := by have := HM.out; omega
          have hdmI : (d : Int) < (m : Int) := by omega
          have HDM := Lib.hid (show d < os'.length by rw [HO'.out]; exact hdm)
          have hco := hrow.cell (k := d) HDM.out
          have hfo := hrow.free d
          have h0 := HZ'.out d (by omega)
          rw [h0] at hco
          have HLEN := Lib.hid (show (os'.set d cy).length = m by rw [List.length_set, HO'.out])
          have HVAL := Lib.hid (show val32 (os'.set d cy) = val32 (xs.take (i + 1)) * val32 ys by
            have h1 := val32_set os' d cy HDM.out
            have h2 := HV'.out
            have h3 := HV.out
            rw [h0] at h1
            rw [List.take_of_length_le (by rw [← E2.out]; exact Nat.le_refl _), hd] at h2
            rw [val32_take_succ xs i HI.out, HX.out, Nat.add_mul, ← h3]
            have e1 : W32 ^ i * x * val32 ys = x * val32 ys * W32 ^ i := by ac_rfl
            have e2 : W32 ^ d * cy = cy * W32 ^ d := Nat.mul_comm _ _
            rw [e1]
            rw [e2] at h1
            omega)
          have HZ2 := Lib.hid (show ∀ j, i + 1 + l2 ≤ j → (os'.set d cy).getD j 0 = 0 from fun j hj => by
            rw [getD_set_ne _ (by omega)]; exact HZ'.out j (by omega))
          clear hd h0
          go_wp2_with fail
          exact ⟨⟨i + 1, os'.set d cy, by omega, by go_num, HLEN.out, HTO'.out.set _ _ HCY.out, hrow.set HDM.out (Nat.lt_trans HCY.out W32_lt), hbel.setCell (Nat.le_refl _) _, HVAL.out, HZ2.out⟩, by simp [intOf]; omega⟩
    · obtain rfl : l1 = i := by omega
      have hlim := hrow.lim (B := wo.heap.size) hrow.lt
      rw [List.take_of_length_le (by rw [← E1.out]; exact Nat.le_refl _)] at HV
      have hmB : m ≤ 1099511627776 := by have := HM.out; omega
      have HTR := Lib.hid (length_trimL_le os)
      have HMO := Lib.hid HO.out.symm
      clear hlt hi
      go_wp2_with fail
      refine (ref_low _ m m os wo hlim HMO.out (Nat.le_refl _) hmB).mono ?_
      rintro e w2 ⟨rfl, rfl⟩
      go_wp2_with fail
      go_ret
      have h5 := hlim.take (trimL os).length
      rw [← trimL_prefix] at h5
      exact ⟨_, _, _, trimL os, rfl, rfl, by have := HTR.out; have := HO.out; omega, by have := HTR.out; have := HO.out; omega, h5, HTO.out.trim, by rw [val32_trim]; exact HV.out, hbel⟩
set_option maxRecDepth 100000 in
theorem ref_mul (A1 A2 : Option Addr) (l1 l2 c1 c2 : Nat) (xs ys : List Nat) (w : World) (h1 : Lim w w.heap.size A1 xs) (h2 : Lim w w.heap.size A2 ys) (e1 : l1 = xs.length) (e2 : l2 = ys.length) (hl1 : l1 ≤ 137438953472) (hl2 : l2 ≤ 137438953472) :
    Calls Tryz.prog 77 #[.slice A1 l1 c1, .slice A2 l2 c2] w fun e w' => ∃ v, e = .returned v ∧ Own w' w.heap.size v (limbs (val xs * val ys)) ∧ Below w.heap.size w w' := by
  have E1 := Lib.hid e1
  have E2 := Lib.hid e2
  have HL := Lib.hid (And.intro hl1 hl2)
  clear e1 e2 hl1 hl2
  go_enter Tryz.func77, Tryz.ntmps77
  go_wp2_with fail
  refine (ref_halves A1 l1 c1 xs w h1 E1.out (by have := HL.out; omega)).mono ?_
  rintro e w1 ⟨v1, rfl, ho1, hb1⟩
  go_wp2_with fail
  refine (ref_halves A2 l2 c2 ys w1 ((h2.below hb1).more hb1.size) E2.out (by have := HL.out; omega)).mono ?_
  rintro e w2 ⟨v2, rfl, ho2, hb2⟩
  obtain ⟨A3, c3, rfl, hc3, hlim3, _⟩ := (ho1.below hb2).form
  obtain ⟨A4, c4, rfl, hc4, hlim4, _⟩ := ho2.form
  have D1 := dig_length xs
  have D2 := dig_length ys
  have HV := Lib.hid (show val32 (dig xs) = val xs ∧ val32 (dig ys) = val ys from ⟨val32_dig xs, val32_dig ys⟩)
  have HT := (show Tiny (dig xs) ∧ Tiny (dig ys) from ⟨tiny_dig h1.small, tiny_dig h2.small⟩)
  generalize dig xs = dx at hlim3 HV HT D1 ⊢
  generalize dig ys = dy at hlim4 HV HT D2 ⊢
  have HTX := Lib.hid HT.1
  have HTY := Lib.hid HT.2
  obtain ⟨lx, hlx⟩ : ∃ lx, dx.length = lx := ⟨_, rfl⟩
  obtain ⟨ly, hly⟩ : ∃ ly, dy.length = ly := ⟨_, rfl⟩
  rw [hlx] at D1 ⊢
  rw [hly] at D2 ⊢
  have HLX := Lib.hid hlx.symm
  have HLY := Lib.hid hly.symm
  have HBB := Lib.hid (show lx ≤ 274877906944 ∧ ly ≤ 274877906944 by have := HL.out; have := E1.out; have := E2.out; omega)
  clear ho1 ho2 D1 D2 HT hlx hly hc3 hc4
  go_wp2_with fail
  refine (ref_product A3 A4 lx ly c3 c4 dx dy w2 hlim3 hlim4 HTX.out HTY.out HLX.out HLY.out (by have := HBB.out; omega) (by have := HBB.out; omega)).mono ?_
  rintro e w3 ⟨A5, l5, c5, zs, rfl, hl5, hlc5, hzl, hlim5, hzt, hzv, hb3⟩
  have HL5 := Lib.hid hl5
  have HZL := Lib.hid (show l5 ≤ 1099511627776 by have := HBB.out; omega)
  clear hl5 hzl hlc5
  go_wp2_with fail
  refine (ref_limbs A5 l5 c5 zs w3 hlim5 hzt HL5.out HZL.out).mono ?_
  rintro e w4 ⟨v, rfl, ho, hb4⟩
  have hb := (hb1.trans (hb2.mono hb1.size)).trans (hb3.mono (Nat.le_trans hb1.size hb2.size))
  go_wp2_with fail
  go_ret
  rw [hzv, HV.out.1, HV.out.2] at ho
  exact ⟨v, rfl, ho.mono hb.size, hb.trans (hb4.mono hb.size)⟩
set_option maxHeartbeats 800000 in
set_option maxRecDepth 100000 in
theorem ref_add (A1 A2 : Option Addr) (l1 l2 c1 c2 : Nat) (xs ys : List Nat) (w : World) (h1 : Lim w w.heap.size A1 xs) (h2 : Lim w w.heap.size A2 ys) (e1 : l1 = xs.length) (e2 : l2 = ys.length) (hl1 : l1 ≤ 137438953472) (hl2 : l2 ≤ 137438953472) :
    Calls Tryz.prog 103 #[.slice A1 l1 c1, .slice A2 l2 c2] w fun e w' => ∃ v, e = .returned v ∧ Own w' w.heap.size v (limbs (val xs + val ys)) ∧ Below w.heap.size w w' := by
  have E1 := Lib.hid e1
  have E2 := Lib.hid e2
  have HL := Lib.hid (And.intro hl1 hl2)
  clear e1 e2 hl1 hl2
  go_enter Tryz.func103, Tryz.ntmps103
  go_wp2_with fail
  refine (ref_halves A1 l1 c1 xs w h1 E1.out (by have := HL.out; omega)).mono ?_
  rintro e w1 ⟨v1, rfl, ho1, hb1⟩
  go_wp2_with fail
  refine (ref_halves A2 l2 c2 ys w1 ((h2.below hb1).more hb1.size) E2.out (by have := HL.out; omega)).mono ?_
  rintro e w2 ⟨v2, rfl, ho2, hb2⟩
  obtain ⟨A3, c3, rfl, hc3, hlim3, _⟩ := (ho1.below hb2).form
  obtain ⟨A4, c4, rfl, hc4, hlim4, _⟩ := ho2.form
  have hb12 := hb1.trans (hb2.mono hb1.size)
  have D1 := dig_length xs
  have D2 := dig_length ys
  have HV := Lib.hid (show val32 (dig xs) = val xs ∧ val32 (dig ys) = val ys from ⟨val32_dig xs, val32_dig ys⟩)
  have HT := (show Tiny (dig xs) ∧ Tiny (dig ys) from ⟨tiny_dig h1.small, tiny_dig h2.small⟩)
  generalize dig xs = dx at hlim3 HV HT D1 ⊢
  generalize dig ys = dy at hlim4 HV HT D2 ⊢
  have HTX := Lib.hid HT.1
  have HTY := Lib.hid HT.2
  obtain ⟨lx, hlx⟩ : ∃ lx, dx.length = lx := ⟨_, rfl⟩
  obtain ⟨ly, hly⟩ : ∃ ly, dy.length = ly := ⟨_, rfl⟩
  rw [hlx] at D1 ⊢
  rw [hly] at D2 ⊢
  have HLX := Lib.hid hlx
  have HLY := Lib.hid hly
  have hlxI : (lx : Int) ≤ 274877906944 := by have := HL.out; have := E1.out; omega
  have hlyI : (ly : Int) ≤ 274877906944 := by have := HL.out; have := E2.out; omega
  clear ho1 ho2 D1 D2 HT hlx hly hc3 hc4 h1 h2 hb1 hb2
  go_wp2_with fail
  go_loopw [7, 8, 9] (fun t7 t8 t9 wr => ∃ (i cy : Nat) (os : List Nat), i ≤ max lx ly + 1 ∧ (max lx ly < i → cy = 0) ∧ t8 = .int .u64 (cy : Int) ∧ t9 = .int .i64 (i : Int) ∧ cy ≤ 1 ∧ os.length = i ∧ Tiny os ∧ Own wr w2.heap.size t7 os ∧ Below w2.heap.size w2 wr ∧ val32 os + cy * W32 ^ i = val32 (dx.take i) + val32 (dy.take i)) (fun _ _ t9 _ => max lx ly + 1 - (intOf t9).toNat)
  case atStart => exact ⟨0, 0, [], by omega, fun _ => rfl, rfl, rfl, by omega, rfl, Tiny.nil, Own.nil _ _, Below.refl _ _, by simp [val32]⟩
  case round =>
    obtain ⟨i, cy, os, hi, hcz, rfl, rfl, hcy, ho, hto, hown, hbel, hval⟩ := hrel
    obtain ⟨A7, k7, c7, rfl⟩ := hown.slice
    have HO := Lib.hid ho
    have HTO := Lib.hid hto
    have HV2 := Lib.hid hval
    have HCZ := Lib.hid hcz
    have HCY := Lib.hid hcy
    have HI := Lib.hid hi
    clear ho hto hval hcz hcy hi
    by_cases hgo : i < lx ∨ i < ly ∨ 0 < cy
    · have hcases : ((i : Int) < (lx : Int)) ∨ ((lx : Int) ≤ (i : Int) ∧ (i : Int) < (ly : Int)) ∨ ((lx : Int) ≤ (i : Int) ∧ (ly : Int) ≤ (i : Int) ∧ (0 : Int) < (cy : Int)) := by omega
      have HGO := Lib.hid hgo
      obtain ⟨x, hx⟩ : ∃ x, dx.getD i 0 = x := ⟨_, rfl⟩
      obtain ⟨y, hy⟩ : ∃ y, dy.getD i 0 = y := ⟨_, rfl⟩
      have HXY := Lib.hid (show x < W32 ∧ y < W32 from ⟨by rw [← hx]; exact HTX.out.getD i, by rw [← hy]; exact HTY.out.getD i⟩)
      have HX := Lib.hid hx
      have HY := Lib.hid hy
      obtain ⟨p, hp⟩ : ∃ p, x + y = p := ⟨_, rfl⟩
      obtain ⟨s, hs⟩ : ∃ s, p + cy = s := ⟨_, rfl⟩
      have HS4 := Lib.hid (show s < 8589934592 by have := HXY.out; rw [W32_eq] at this; have := HCY.out; omega)
      obtain ⟨sm, hsm⟩ : ∃ sm, s % 4294967296 = sm := ⟨_, rfl⟩
      obtain ⟨sd, hsd⟩ : ∃ sd, s / 4294967296 = sd := ⟨_, rfl⟩
      have hpI : (x : Int) + (y : Int) = (p : Int) := by omega
      have hsI : (p : Int) + (cy : Int) = (s : Int) := by omega
      have hsmI : (s : Int) % 4294967296 = (sm : Int) := by omega
      have hsdI : (s : Int) / 4294967296 = (sd : Int) := by omega
      have wp : IntKind.u64.wrap (p : Int) = (p : Int) := wrap64_in (by have := HS4.out; rw [W64_eq]; omega)
      have ws : IntKind.u64.wrap (s : Int) = (s : Int) := wrap64_in (by have := HS4.out; rw [W64_eq]; omega)
      have wm : IntKind.u64.wrap (sm : Int) = (sm : Int) := wrap64_in (by have := HS4.out; rw [W64_eq]; omega)
      have wd : IntKind.u64.wrap (sd : Int) = (sd : Int) := wrap64_in (by have := HS4.out; rw [W64_eq]; omega)
      have HSM := Lib.hid (show sm < W32 ∧ sm < W64 ∧ sd ≤ 1 from ⟨by rw [← hsm, ← W32_eq]; exact Nat.mod_lt _ W32_pos, by rw [W64_eq]; omega, by have := HS4.out; omega⟩)
      have HST := Lib.hid (show val32 (os ++ [sm]) + sd * W32 ^ (i + 1) = val32 (dx.take (i + 1)) + val32 (dy.take (i + 1)) by
        have h3 := add_step (P := W32 ^ i) (x := x) (y := y) (s := s) HV2.out (by omega)
        rw [val32_take_step, val32_take_step, val32_snoc, HO.out, HX.out, HY.out, ← hsm, ← hsd, Nat.pow_succ, ← W32_eq]
        exact h3)
      have HNext := Lib.hid (show i + 1 ≤ max lx ly + 1 ∧ (max lx ly < i + 1 → sd = 0) from by
        have hg := HGO.out
        have hc0 := HCZ.out
        refine ⟨by omega, fun hlt => ?_⟩
        have hx0 : x = 0 := by rw [← hx]; simp [show dx[i]? = none from List.getElem?_eq_none (by rw [HLX.out]; omega)]
        have hy0 : y = 0 := by rw [← hy]; simp [show dy[i]? = none from List.getElem?_eq_none (by rw [HLY.out]; omega)]
        have := HCY.out
        omega)
      have HLE := Lib.hid (show os.length + 1 ≤ 17592186044416 by rw [HO.out]; have := HI.out; omega)
      have hlim3' := hlim3.below hbel
      have hlim4' := hlim4.below hbel
      have hiI : (i : Int) ≤ 274877906945 := by have := HI.out; omega
      clear hgo hx hy hp hs hsm hsd
      rcases hcases with hA | ⟨hA, hB⟩ | ⟨hA, hB, hC⟩
      all_goals
        go_wp2_with fail
        refine (ref_digit A3 lx c3 i dx _ hlim3' HLX.out.symm).mono ?_
        rintro e w3 ⟨rfl, rfl⟩
        rw [HX.out]
        go_wp2_with fail
        refine (ref_digit A4 ly c4 i dy _ hlim4' HLY.out.symm).mono ?_
        rintro e w3 ⟨rfl, rfl⟩
        rw [HY.out]
        go_wp2_with (at_builtin; refine append_one (w0 := w2) w2.heap.size rfl _ _ rfl _ os sm (by rfl) (by rfl) HSM.out.2.1 hown hbel hbel.size HLE.out ?_)
        intro v3 w3 hown1 hbel1 _
        go_wp2_with fail
        have hiI2 := HI.out
        exact ⟨⟨i + 1, sd, os ++ [sm], HNext.out.1, HNext.out.2, rfl, by go_num, HSM.out.2.2, by rw [List.length_append, HO.out]; rfl, HTO.out.append (Tiny.one HSM.out.1), hown1, hbel1, HST.out⟩, by have := HNext.out.1; simp [intOf]; omega⟩
    · have hA : (lx : Int) ≤ (i : Int) := by omega
      have hB : (ly : Int) ≤ (i : Int) := by omega
      obtain rfl : cy = 0 := by omega
      have HF := Lib.hid (show val32 os = val xs + val ys by
        have h3 := HV2.out
        rw [List.take_of_length_le (by rw [HLX.out]; omega), List.take_of_length_le (by rw [HLY.out]; omega), HV.out.1, HV.out.2] at h3
        omega)
      obtain ⟨A8, c8, e8, hc8, hlim8, _⟩ := hown.form
      injection e8 with e81 e82 e83
      subst e81 e82 e83
      have HLEN := Lib.hid (show os.length ≤ 1099511627776 by rw [HO.out]; have := HI.out; omega)
      clear hgo hown hc8
      go_wp2_with fail
      refine (ref_limbs A7 os.length c7 os wr hlim8 HTO.out rfl HLEN.out).mono ?_
      rintro e w4 ⟨v, rfl, ho4, hb4⟩
      have hb := hb12.trans (hbel.mono hb12.size)
      go_wp2_with fail
      go_ret
      rw [HF.out] at ho4
      exact ⟨v, rfl, ho4.mono hb.size, hb.trans (hb4.mono hb.size)⟩
set_option maxHeartbeats 800000 in
set_option maxRecDepth 100000 in
theorem ref_sub (A1 A2 : Option Addr) (l1 l2 c1 c2 : Nat) (xs ys : List Nat) (w : World) (h1 : Lim w w.heap.size A1 xs) (h2 : Lim w w.heap.size A2 ys) (e1 : l1 = xs.length) (e2 : l2 = ys.length) (hl1 : l1 ≤ 137438953472) (hl2 : l2 ≤ 137438953472) (hle : val ys ≤ val xs) :
    Calls Tryz.prog 101 #[.slice A1 l1 c1, .slice A2 l2 c2] w fun e w' => ∃ v, e = .returned v ∧ Own w' w.heap.size v (limbs (val xs - val ys)) ∧ Below w.heap.size w w' := by
  have E1 := Lib.hid e1
  have E2 := Lib.hid e2
  have HL := Lib.hid (And.intro hl1 hl2)
  clear e1 e2 hl1 hl2
  go_enter Tryz.func101, Tryz.ntmps101
  go_wp2_with fail
  refine (ref_halves A1 l1 c1 xs w h1 E1.out (by have := HL.out; omega)).mono ?_
  rintro e w1 ⟨v1, rfl, ho1, hb1⟩
  go_wp2_with fail
  refine (ref_halves A2 l2 c2 ys w1 ((h2.below hb1).more hb1.size) E2.out (by have := HL.out; omega)).mono ?_
  rintro e w2 ⟨v2, rfl, ho2, hb2⟩
  obtain ⟨A3, c3, rfl, hc3, hlim3, _⟩ := (ho1.below hb2).form
  obtain ⟨A4, c4, rfl, hc4, hlim4, _⟩ := ho2.form
  have hb12 := hb1.trans (hb2.mono hb1.size)
  have D1 := dig_length xs
  have D2 := dig_length ys
  have HN := Lib.hid (show (dig ys).length ≤ (dig xs).length from norm_len (norm_dig ys) (Nat.lt_of_le_of_lt (by rw [val32_dig, ← val32_dig xs] at *; exact hle) (val32_lt (tiny_dig h1.small))))
  have HV := Lib.hid (show val32 (dig xs) = val xs ∧ val32 (dig ys) = val ys from ⟨val32_dig xs, val32_dig ys⟩)
  have HT := (show Tiny (dig xs) ∧ Tiny (dig ys) from ⟨tiny_dig h1.small, tiny_dig h2.small⟩)
  generalize dig xs = dx at hlim3 HV HT D1 HN ⊢
  generalize dig ys = dy at hlim4 HV HT D2 HN ⊢
  have HTX := Lib.hid HT.1
  have HTY := Lib.hid HT.2
  obtain ⟨lx, hlx⟩ : ∃ lx, dx.length = lx := ⟨_, rfl⟩
  obtain ⟨ly, hly⟩ : ∃ ly, dy.length = ly := ⟨_, rfl⟩
  rw [hlx] at D1 HN ⊢
  rw [hly] at D2 HN ⊢
  have HLX := Lib.hid hlx
  have HLY := Lib.hid hly
  have HLE0 := Lib.hid hle
  have hlxI : (lx : Int) ≤ 274877906944 := by have := HL.out; have := E1.out; omega
  clear ho1 ho2 D1 D2 HT hlx hly hc3 hc4 h1 h2 hb1 hb2 hle
  go_wp2_with fail
  go_loopw [7, 8, 9] (fun t7 t8 t9 wr => ∃ (i cy : Nat) (os : List Nat), i ≤ lx ∧ t8 = .int .u64 (cy : Int) ∧ t9 = .int .i64 (i : Int) ∧ cy ≤ 1 ∧ os.length = i ∧ Tiny os ∧ Own wr w2.heap.size t7 os ∧ Below w2.heap.size w2 wr ∧ val32 os + val32 (dy.take i) = val32 (dx.take i) + cy * W32 ^ i) (fun _ _ t9 _ => lx - (intOf t9).toNat)
  case atStart => exact ⟨0, 0, [], by omega, rfl, rfl, by omega, rfl, Tiny.nil, Own.nil _ _, Below.refl _ _, by simp [val32]⟩
  case round =>
    obtain ⟨i, cy, os, hi, rfl, rfl, hcy, ho, hto, hown, hbel, hval⟩ := hrel
    obtain ⟨A7, k7, c7, rfl⟩ := hown.slice
    have HO := Lib.hid ho
    have HTO := Lib.hid hto
    have HV2 := Lib.hid hval
    have HCY := Lib.hid hcy
    clear ho hto hval hcy
    by_cases hgo : i < lx
    · have hgoI : (i : Int) < (lx : Int) := by omega
      have HIX := Lib.hid (show i < dx.length by rw [HLX.out]; exact hgo)
      obtain ⟨ad, rfl, _, hc⟩ := (hlim3.below hbel).at_ HIX.out
      obtain ⟨x, hx⟩ : ∃ x, dx.getD i 0 = x := ⟨_, rfl⟩
      rw [hx] at hc
      obtain ⟨y, hy⟩ : ∃ y, dy.getD i 0 = y := ⟨_, rfl⟩
      have HXY := Lib.hid (show x < W32 ∧ y < W32 from ⟨by rw [← hx]; exact HTX.out.getD i, by rw [← hy]; exact HTY.out.getD i⟩)
      have HX := Lib.hid hx
      have HY := Lib.hid hy
      obtain ⟨p, hp⟩ : ∃ p, 4294967296 + x = p := ⟨_, rfl⟩
      have hb32 := HXY.out
      rw [W32_eq] at hb32
      have hcy1 := HCY.out
      obtain ⟨q, hq⟩ : ∃ q, p - y = q := ⟨_, rfl⟩
      obtain ⟨s, hs⟩ : ∃ s, q - cy = s := ⟨_, rfl⟩
      obtain ⟨sm, hsm⟩ : ∃ sm, s % 4294967296 = sm := ⟨_, rfl⟩
      obtain ⟨sd, hsd⟩ : ∃ sd, s / 4294967296 = sd := ⟨_, rfl⟩
      obtain ⟨t, ht⟩ : ∃ t, 1 - sd = t := ⟨_, rfl⟩
      have HS4 := Lib.hid (show p < 8589934592 ∧ q < 8589934592 ∧ s < 8589934592 ∧ sd ≤ 1 by omega)
      have hpI : (4294967296 : Int) + (x : Int) = (p : Int) := by omega
      have hqI : (p : Int) - (y : Int) = (q : Int) := by omega
      have hsI : (q : Int) - (cy : Int) = (s : Int) := by omega
      have hsmI : (s : Int) % 4294967296 = (sm : Int) := by omega
      have hsdI : (s : Int) / 4294967296 = (sd : Int) := by omega
      have htI : (1 : Int) - (sd : Int) = (t : Int) := by omega
      have wp : IntKind.u64.wrap (p : Int) = (p : Int) := wrap64_in (by have := HS4.out; rw [W64_eq]; omega)
      have wq : IntKind.u64.wrap (q : Int) = (q : Int) := wrap64_in (by have := HS4.out; rw [W64_eq]; omega)
      have ws : IntKind.u64.wrap (s : Int) = (s : Int) := wrap64_in (by have := HS4.out; rw [W64_eq]; omega)
      have wm : IntKind.u64.wrap (sm : Int) = (sm : Int) := wrap64_in (by have := HS4.out; rw [W64_eq]; omega)
      have wd : IntKind.u64.wrap (sd : Int) = (sd : Int) := wrap64_in (by have := HS4.out; rw [W64_eq]; omega)
      have wt : IntKind.u64.wrap (t : Int) = (t : Int) := wrap64_in (by have := HS4.out; rw [W64_eq]; omega)
      have HSM := Lib.hid (show sm < W32 ∧ sm < W64 ∧ t ≤ 1 from ⟨by rw [← hsm, ← W32_eq]; exact Nat.mod_lt _ W32_pos, by rw [W64_eq]; omega, by omega⟩)
      have HST := Lib.hid (show val32 (os ++ [sm]) + val32 (dy.take (i + 1)) = val32 (dx.take (i + 1)) + t * W32 ^ (i + 1) by
        have h3 := (sub_step (P := W32 ^ i) (x := x) (y := y) (s := s) (t := t) HV2.out (by rw [W32_eq]; omega) HCY.out HXY.out.1 (by rw [W32_eq, hsd, ht])).1
        rw [val32_take_step, val32_take_step, val32_snoc, HO.out, HX.out, HY.out, ← hsm, Nat.pow_succ, ← W32_eq]
        exact h3)
      have HLE := Lib.hid (show os.length + 1 ≤ 17592186044416 by rw [HO.out]; omega)
      have HLI := Lib.hid (hlim4.below hbel)
      have r1 := later_cell hc
      clear hx hy hp hq hs hsm hsd ht hb32 hcy1 hc
      go_wp2_with fail
      refine wp_region_stages (fun w' => ∃ δ : Later Nix wr, w' = δ.world) [(false, 0), (false, 1), (false, 2), (false, 3), (false, 4), (false, 5), (false, 6), (false, 9), (true, 7), (false, 8)] 10 [.reads [_, _, _, _, _, _, _, _], .loud _, .reads [_]] [_, _] (by kernel_rfl) (by kernel_rfl) rfl rfl ?_ ?_
      · exact ⟨⟨_, nix_drawn wr⟩, rfl⟩
      refine wpStages_reads ?_
      repeat (go_big_quiet_step (fail))
      refine wpQuiet_nil ?_
      refine wpStages_loud rfl ?_
      intro K hK
      go_big_op
      refine (ref_digit A4 ly c4 i dy (wr.drewN 1) (HLI.out.drewN 1) HLY.out.symm).mono ?_
      rintro e w3 ⟨rfl, rfl⟩
      rw [HY.out]
      refine hK _ _ ⟨⟨_, nix_drawn wr⟩, rfl⟩ ?_
      clear hK K
      refine wpStages_reads ?_
      repeat (go_big_quiet_step (fail))
      refine wpQuiet_nil ?_
      refine wpStages_nil ?_
      go_wp2_with (at_builtin; refine append_one (w0 := w2) w2.heap.size rfl _ _ rfl _ os sm (by rfl) (by rfl) HSM.out.2.1 (hown.below (below_drewN (Below.refl _ wr) 1)) (below_drewN hbel 1) hbel.size HLE.out ?_)
      intro v3 w3 hown1 hbel1 _
      go_wp2_with fail
      exact ⟨⟨i + 1, t, os ++ [sm], by omega, rfl, by go_num, HSM.out.2.2, by rw [List.length_append, HO.out]; rfl, HTO.out.append (Tiny.one HSM.out.1), hown1, hbel1, HST.out⟩, by simp [intOf]; omega⟩
    · obtain rfl : lx = i := by omega
      have HF := Lib.hid (show val32 os = val xs - val ys by
        have h3 := HV2.out
        rw [List.take_of_length_le (by rw [HLY.out]; exact HN.out), List.take_of_length_le (by rw [HLX.out]; exact Nat.le_refl _), HV.out.1, HV.out.2] at h3
        exact sub_end h3 HCY.out (by have h4 := val32_lt HTO.out; rwa [HO.out] at h4) HLE0.out)
      obtain ⟨A8, c8, e8, hc8, hlim8, _⟩ := hown.form
      injection e8 with e81 e82 e83
      subst e81 e82 e83
      have HLEN := Lib.hid (show os.length ≤ 1099511627776 by rw [HO.out]; omega)
      clear hgo hown hc8
      go_wp2_with fail
      refine (ref_limbs A7 os.length c7 os wr hlim8 HTO.out rfl HLEN.out).mono ?_
      rintro e w4 ⟨v, rfl, ho4, hb4⟩
      have hb := hb12.trans (hbel.mono hb12.size)
      go_wp2_with fail
      go_ret
      rw [HF.out] at ho4
      exact ⟨v, rfl, ho4.mono hb.size, hb.trans (hb4.mono hb.size)⟩
end Go.Proofs.YtjbagikfogejnaaGreatDoor
/- The package rosetteref00: natural numbers: NatUp. -/
namespace Go.Proofs.YtjbagikfogejnaaGreatDoor
open Go.RowKit Go.Deep
theorem up_step {P d x c b s o : Nat} (h : o + c * P = d * b) (hs : x * b + c = s) : o + P * (s % W32) + s / W32 * (P * W32) = (d + P * x) * b := by
  have h2 := Nat.mod_add_div s W32
  have e1 : s / W32 * (P * W32) = P * (W32 * (s / W32)) := by ac_rfl
  have e2 : c * P = P * c := Nat.mul_comm _ _
  have e3 : (d + P * x) * b = d * b + P * (x * b) := by rw [Nat.add_mul]; congr 1; ac_rfl
  rw [e1, e3]
  rw [e2] at h
  have h4 : P * (s % W32 + W32 * (s / W32)) = P * (x * b + c) := by rw [h2, hs]
  rw [Nat.mul_add, Nat.mul_add] at h4
  omega
set_option maxHeartbeats 1000000 in
set_option maxRecDepth 100000 in
theorem ref_up (A1 : Option Addr) (l1 c1 n : Nat) (xs : List Nat) (w : World) (h1 : Lim w w.heap.size A1 xs) (e1 : l1 = xs.length) (hl1 : l1 ≤ 137438953472) (hn : n ≤ 137438953472) :
    Calls Tryz.prog 146 #[.slice A1 l1 c1, .int .i64 (n : Int)] w fun e w' => ∃ v, e = .returned v ∧ Own w' w.heap.size v (limbs (val xs * 2 ^ n)) ∧ Below w.heap.size w w' := by
  have E1 := Lib.hid e1
  have HL := Lib.hid (And.intro hl1 hn)
  clear e1 hl1 hn
  go_enter Tryz.func146, Tryz.ntmps146
  go_wp2_with fail
  refine (ref_halves A1 l1 c1 xs w h1 E1.out (by have := HL.out; omega)).mono ?_
  rintro e w1 ⟨v1, rfl, ho1, hb1⟩
  obtain ⟨A3, c3, rfl, hc3, hlim3, _⟩ := ho1.form
  have D1 := dig_length xs
  have HV := Lib.hid (val32_dig xs)
  have HT := tiny_dig h1.small
  have hnil : dig xs = [] → val xs = 0 := fun h => by rw [← val32_dig xs, h]; rfl
  generalize dig xs = dx at hlim3 HV HT D1 hnil ⊢
  have HTX := Lib.hid HT
  obtain ⟨lx, hlx⟩ : ∃ lx, dx.length = lx := ⟨_, rfl⟩
  rw [hlx] at D1 ⊢
  have HLX := Lib.hid hlx
  have HNIL := Lib.hid hnil
  have hlxI : (lx : Int) ≤ 274877906944 := by have := HL.out; have := E1.out; omega
  clear ho1 D1 HT hlx hc3 hnil
  by_cases h0 : lx = 0
  · subst h0
    have HZ := Lib.hid (show limbs (val xs * 2 ^ n) = [] by
      rw [HNIL.out (List.eq_nil_of_length_eq_zero HLX.out)]; simp [limbs_zero])
    go_wp2_with fail
    go_ret
    rw [HZ.out]
    exact ⟨_, rfl, Own.nil _ _, hb1⟩
  · have t0 : ((lx : Int) == 0) = false := beq_eq_false_iff_ne.2 (by omega)
    obtain ⟨q, hq⟩ : ∃ q, n / 32 = q := ⟨_, rfl⟩
    obtain ⟨r, hr⟩ : ∃ r, n % 32 = r := ⟨_, rfl⟩
    have hqI : (n : Int) / 32 = (q : Int) := by omega
    have hrI : (n : Int) % 32 = (r : Int) := by omega
    have hmk := make_limbs q (by have := HL.out; omega)
    have HQR := Lib.hid (show n = 32 * q + r ∧ r ≤ 31 ∧ q ≤ 4294967296 by have := HL.out; omega)
    have hrb : (r : Int) ≤ 31 := by omega
    have hqb : (q : Int) ≤ 4294967296 := by have := HQR.out; omega
    have hnb : (n : Int) ≤ 137438953472 := by have := HL.out; omega
    clear hq hr h0
    go_wp2_with fail
    go_loopw [8, 9] (fun t8 t9 wr => ∃ i b : Nat, i ≤ r ∧ b = 2 ^ i ∧ t8 = .int .u64 (b : Int) ∧ t9 = .int .i64 (i : Int) ∧ wr = w1.alloc (.cells (madeCells #[.int .u64 0] q) 41)) (fun _ t9 _ => r - (intOf t9).toNat)
    case atStart => exact ⟨0, 1, by omega, rfl, rfl, rfl, rfl⟩
    case round =>
      obtain ⟨i, b, hi, hb, rfl, rfl, rfl⟩ := hrel
      have HB := Lib.hid hb
      clear hb
      by_cases hlt : i < r
      · have hltI : (i : Int) < (r : Int) := by omega
        have HB31 := Lib.hid (show b ≤ 2147483648 by
          have h2 := HQR.out
          have h3 := Nat.pow_le_pow_right (n := 2) (by omega) (show i ≤ 31 by omega)
          rw [← HB.out] at h3
          exact h3)
        obtain ⟨b2, hb2⟩ : ∃ b2, 2 * b = b2 := ⟨_, rfl⟩
        have hb2I : (2 : Int) * (b : Int) = (b2 : Int) := by omega
        have wb : IntKind.u64.wrap (b2 : Int) = (b2 : Int) := wrap64_in (by have := HB31.out; rw [W64_eq]; omega)
        have HS := Lib.hid (show b2 = 2 ^ (i + 1) by rw [← hb2, HB.out, Nat.pow_succ]; omega)
        clear hb2
        go_wp2_with fail
        exact ⟨⟨i + 1, b2, by omega, HS.out, rfl, by go_num, by trivial⟩, by simp [intOf]; omega⟩
      · obtain rfl : r = i := by omega
        have hltI : ¬ (r : Int) < (r : Int) := by omega
        have HB31 := Lib.hid (show b ≤ 2147483648 ∧ 0 < b by
          have h2 := HQR.out
          have h3 := Nat.pow_le_pow_right (n := 2) (by omega) (show r ≤ 31 by omega)
          rw [← HB.out] at h3
          exact ⟨h3, by rw [HB.out]; exact Nat.pow_pos (by omega)⟩)
        have hO0 := Own.made w1 w1.heap.size q q (Nat.le_refl _) (Nat.le_refl _) (by have := HQR.out; omega)
        have hb0 : Below w1.heap.size w1 (w1.alloc (.cells (madeCells #[.int .u64 0] q) 41)) := (Below.refl _ _).alloc (Nat.le_refl _) _
        generalize w1.alloc (.cells (madeCells #[.int .u64 0] q) 41) = W2 at hO0 hb0 ⊢
        clear hmk hlt hi
        go_wp2_with fail
        go_loopw [6, 7, 10] (fun t6 t7 t10 wr => ∃ (i cy : Nat) (os : List Nat), i ≤ lx ∧ t7 = .int .u64 (cy : Int) ∧ t10 = .int .i64 (i : Int) ∧ cy < b ∧ os.length = q + i ∧ Tiny os ∧ Own wr w1.heap.size t6 os ∧ Below w1.heap.size w1 wr ∧ val32 os + cy * W32 ^ (q + i) = val32 (dx.take i) * W32 ^ q * b) (fun _ _ t10 _ => lx - (intOf t10).toNat)
        case atStart => exact ⟨0, 0, List.replicate q 0, by omega, rfl, rfl, HB31.out.2, by simp, Tiny.zeros q, hO0, hb0, by simp [val32, val32_zeros]⟩
        case round =>
          clear hO0 hb0
          obtain ⟨i, cy, os, hi, rfl, rfl, hcy, ho, hto, hown, hbel, hval⟩ := hrel
          obtain ⟨A7, k7, c7, rfl⟩ := hown.slice
          have HO := Lib.hid ho
          have HTO := Lib.hid hto
          have HV2 := Lib.hid hval
          have HCY := Lib.hid hcy
          clear ho hto hval hcy
          have HLE := Lib.hid (show os.length + 1 ≤ 17592186044416 by rw [HO.out]; have := HQR.out; omega)
          by_cases hgo : i < lx
          · have hgoI : (i : Int) < (lx : Int) := by omega
            have HIX := Lib.hid (show i < dx.length by rw [HLX.out]; exact hgo)
            obtain ⟨ad, rfl, _, hc⟩ := (hlim3.below hbel).at_ HIX.out
            obtain ⟨x, hx⟩ : ∃ x, dx.getD i 0 = x := ⟨_, rfl⟩
            rw [hx] at hc
            have HX := Lib.hid hx
            have HXT := Lib.hid (show x < 4294967296 by rw [← hx, ← W32_eq]; exact HTX.out.getD i)
            obtain ⟨p, hp⟩ : ∃ p, x * b = p := ⟨_, rfl⟩
            have HP := Lib.hid (show p + b ≤ 4294967296 * b by
              have h2 : (x + 1) * b ≤ 4294967296 * b := Nat.mul_le_mul_right _ HXT.out
              rw [Nat.succ_mul, hp] at h2
              exact h2)
            obtain ⟨s, hs⟩ : ∃ s, p + cy = s := ⟨_, rfl⟩
            have HS4 := Lib.hid (show p < 9223372036854775808 ∧ s < 4294967296 * b ∧ s < 9223372036854775808 by
              have h1 := HP.out
              have h2 := HB31.out
              have h3 := HCY.out
              omega)
            obtain ⟨sm, hsm⟩ : ∃ sm, s % 4294967296 = sm := ⟨_, rfl⟩
            obtain ⟨sd, hsd⟩ : ∃ sd, s / 4294967296 = sd := ⟨_, rfl⟩
            have hpI : (x : Int) * (b : Int) = (p : Int) := by rw [← hp]; simp
            have hsI : (p : Int) + (cy : Int) = (s : Int) := by omega
            have hsmI : (s : Int) % 4294967296 = (sm : Int) := by omega
            have hsdI : (s : Int) / 4294967296 = (sd : Int) := by omega
            have wp : IntKind.u64.wrap (p : Int) = (p : Int) := wrap64_in (by have := HS4.out; rw [W64_eq]; omega)
            have ws : IntKind.u64.wrap (s : Int) = (s : Int) := wrap64_in (by have := HS4.out; rw [W64_eq]; omega)
            have wm : IntKind.u64.wrap (sm : Int) = (sm : Int) := wrap64_in (by have := HS4.out; rw [W64_eq]; omega)
            have wd : IntKind.u64.wrap (sd : Int) = (sd : Int) := wrap64_in (by have := HS4.out; rw [W64_eq]; omega)
            have HSM := Lib.hid (show sm < W32 ∧ sm < W64 ∧ sd < b from ⟨by rw [← hsm, ← W32_eq]; exact Nat.mod_lt _ W32_pos, by rw [W64_eq]; omega, by rw [← hsd]; exact Nat.div_lt_of_lt_mul HS4.out.2.1⟩)
            have HST := Lib.hid (show val32 (os ++ [sm]) + sd * W32 ^ (q + (i + 1)) = val32 (dx.take (i + 1)) * W32 ^ q * b by
              have h3 := up_step (P := W32 ^ (q + i)) (x := x) (b := b) (s := s) HV2.out (by rw [hp, hs])
              rw [val32_take_step, val32_snoc, HO.out, HX.out, ← hsm, ← hsd, ← Nat.add_assoc, Nat.pow_succ, ← W32_eq, h3, Nat.add_mul _ _ (W32 ^ q), Nat.pow_add]
              congr 2
              ac_rfl)
            clear hx hp hs hsm hsd
            go_wp2_with (at_builtin; refine append_one (w0 := w1) w1.heap.size rfl _ _ rfl _ os sm (by rfl) (by rfl) HSM.out.2.1 hown hbel hbel.size HLE.out ?_)
            intro v3 w3 hown1 hbel1 _
            go_wp2_with fail
            exact ⟨⟨i + 1, sd, os ++ [sm], by omega, rfl, by go_num, HSM.out.2.2, by rw [List.length_append, HO.out]; rfl, HTO.out.append (Tiny.one HSM.out.1), hown1, hbel1, HST.out⟩, by simp [intOf]; omega⟩
          · obtain rfl : lx = i := by omega
            have HCW := Lib.hid (show cy < W32 ∧ cy < W64 by
              have h1 := HCY.out
              have h2 := HB31.out
              rw [W32_eq, W64_eq]; omega)
            have HF := Lib.hid (show val32 (os ++ [cy]) = val xs * 2 ^ n by
              have h3 := HV2.out
              rw [List.take_of_length_le (by rw [HLX.out]; exact Nat.le_refl _), HV.out, Nat.mul_comm cy] at h3
              rw [val32_snoc, HO.out, h3, HB.out, HQR.out.1, Nat.pow_add, Nat.pow_mul, show (2 : Nat) ^ 32 = W32 by rw [W32_eq]]
              ac_rfl)
            go_wp2_with (at_builtin; refine append_one (w0 := w1) w1.heap.size rfl _ _ rfl _ os cy (by rfl) (by rfl) HCW.out.2 hown hbel hbel.size HLE.out ?_)
            intro v3 w3 hown1 hbel1 _
            have htz := HTO.out.append (Tiny.one HCW.out.1)
            have HLEN := Lib.hid (show (os ++ [cy]).length ≤ 1099511627776 by rw [List.length_append, HO.out]; have := HQR.out; simp only [List.length_singleton]; omega)
            generalize os ++ [cy] = zs at hown1 htz HF HLEN ⊢
            obtain ⟨A8, c8, rfl, hc8, hlim8, _⟩ := hown1.form
            have HTZ := Lib.hid htz
            clear hown hgo htz hc8
            go_wp2_with fail
            refine (ref_limbs A8 zs.length c8 zs w3 hlim8 HTZ.out rfl HLEN.out).mono ?_
            rintro e w4 ⟨v, rfl, ho4, hb4⟩
            have hb := hb1.trans (hbel1.mono hb1.size)
            go_wp2_with fail
            go_ret
            rw [HF.out] at ho4
            exact ⟨v, rfl, ho4.mono hb.size, hb.trans (hb4.mono hb.size)⟩
end Go.Proofs.YtjbagikfogejnaaGreatDoor
/- The package rosetteref00: numbers of any sign. -/
namespace Go.Proofs.YtjbagikfogejnaaGreatDoor
open Go.RowKit Go.Deep
/-- The value v is the number z (of exponent 0). -/
def NumAt (w : World) (v : Value) (z : Int) : Prop :=
  ∃ b A l c, v = .agg #[.bool b, .slice A l c, .int .i64 0] ∧ l = (limbs z.natAbs).length ∧ l ≤ c ∧ Lim w w.heap.size A (limbs z.natAbs) ∧ signed b z.natAbs = z ∧ Own w 0 (.slice A l c) (limbs z.natAbs)
/-- .. its limbs lent: they need lie in no row of their own. -/
def NumL (w : World) (v : Value) (z : Int) : Prop :=
  ∃ b A l c, v = .agg #[.bool b, .slice A l c, .int .i64 0] ∧ l = (limbs z.natAbs).length ∧ l ≤ c ∧ Lim w w.heap.size A (limbs z.natAbs) ∧ signed b z.natAbs = z
theorem NumL.below {w w' : World} {v : Value} {z : Int} (h : NumL w v z) (hb : Below w.heap.size w w') : NumL w' v z := by
  obtain ⟨b, A, l, c, e, hl, hc, hlim, hs⟩ := h
  exact ⟨b, A, l, c, e, hl, hc, (hlim.below hb).more hb.size, hs⟩
theorem NumAt.lend {w : World} {v : Value} {z : Int} (h : NumAt w v z) : NumL w v z := by
  obtain ⟨b, A, l, c, e, hl, hc, hlim, hs, _⟩ := h
  exact ⟨b, A, l, c, e, hl, hc, hlim, hs⟩
theorem NumAt.below {w w' : World} {v : Value} {z : Int} (h : NumAt w v z) (hb : Below w.heap.size w w') : NumAt w' v z := by
  obtain ⟨b, A, l, c, e, hl, hc, hlim, hs, ho⟩ := h
  exact ⟨b, A, l, c, e, hl, hc, (hlim.below hb).more hb.size, hs, ho.below hb⟩
theorem NumAt.of {w : World} {b : Bool} {A : Option Addr} {l c n : Nat} (hl : l = (limbs n).length) (hc : l ≤ c) (hlim : Lim w w.heap.size A (limbs n)) (ho : Own w 0 (.slice A l c) (limbs n)) : NumAt w (.agg #[.bool b, .slice A l c, .int .i64 0]) (signed b n) :=
  ⟨b, A, l, c, rfl, by rw [signed_natAbs]; exact hl, hc, by rw [signed_natAbs]; exact hlim, by rw [signed_natAbs], by rw [signed_natAbs]; exact ho⟩
section
variable {w w' : World} {g : Nat} {x y z a b c : Value} {t : TypeId}
/-- A box of three cells. -/
def Box3 (w : World) (g : Nat) (t : TypeId) (x y z : Value) : Prop := w.heap[g]? = some (.cells #[x, y, z] t (0, 0))
theorem Box3.below {B : Nat} (h : Box3 w g t x y z) (hb : Below B w w') (hg : g < B) : Box3 w' g t x y z := by
  unfold Box3 at h ⊢
  rw [hb.block g hg]; exact h
theorem Box3.cell0 (h : Box3 w g t x y z) : w.cell? ⟨g, 0, none⟩ = some x := by rw [cell_of_row w g 0 _ _ (0, 0) h]; rfl
theorem Box3.cell1 (h : Box3 w g t x y z) : w.cell? ⟨g, 1, none⟩ = some y := by rw [cell_of_row w g 1 _ _ (0, 0) h]; rfl
theorem Box3.cell2 (h : Box3 w g t x y z) : w.cell? ⟨g, 2, none⟩ = some z := by rw [cell_of_row w g 2 _ _ (0, 0) h]; rfl
theorem Box3.free (h : Box3 w g t x y z) (k : Nat) : w.frozen? ⟨g, k, none⟩ = false := by
  unfold Box3 at h
  simp [World.frozen?, h]
theorem Box3.lt (h : Box3 w g t x y z) : g < w.heap.size := (Array.getElem?_eq_some_iff.1 h).1
theorem Box3.store (h : Box3 w g t x y z) : Box3 (((w.setCell ⟨g, 0, none⟩ a).setCell ⟨g, 1, none⟩ b).setCell ⟨g, 2, none⟩ c) g t a b c := by
  unfold Box3 at h ⊢
  simp [World.setCell, Array.getElem?_modify, h]
theorem Box3.new (w : World) (o : Obj) (x y z : Value) (t : TypeId) : Box3 ((w.alloc o).alloc (.cells #[x, y, z] t)) (w.heap.size + 1) t x y z := by
  have h := heap_alloc_new (w.alloc o) (.cells #[x, y, z] t)
  rwa [show (w.alloc o).heap.size = w.heap.size + 1 by simp] at h
end
theorem Lim.store3 {w : World} {B g : Nat} {a b c : Value} {A : Option Addr} {xs : List Nat} (h : Lim w B A xs) (hB : B ≤ g) : Lim (((w.setCell ⟨g, 0, none⟩ a).setCell ⟨g, 1, none⟩ b).setCell ⟨g, 2, none⟩ c) B A xs :=
  h.below (((Below.refl B w |>.setCell (p := ⟨g, 0, none⟩) hB _).setCell (p := ⟨g, 1, none⟩) hB _).setCell (p := ⟨g, 2, none⟩) hB _)
/-- Limbs of a row of one's own stay where a box is written. -/
theorem Own.store3 {w : World} {base g : Nat} {x y z a b c v : Value} {ys : List Nat} (h : Own w base v ys) (hx : Box3 w g 122 x y z) : Own (((w.setCell ⟨g, 0, none⟩ a).setCell ⟨g, 1, none⟩ b).setCell ⟨g, 2, none⟩ c) base v ys := by
  have hne : ∀ k, v.ownBlock = some k → k ≠ g := by
    intro k hk e
    subst e
    obtain ⟨cs, hc⟩ := h.type hk
    unfold Box3 at hx
    rw [hc] at hx
    simp at hx
  exact ((h.far ⟨g, 0, none⟩ _ hne).far ⟨g, 1, none⟩ _ hne).far ⟨g, 2, none⟩ _ hne
set_option maxRecDepth 100000 in
theorem num_zeroL (v : Value) (z : Int) (w : World) (h : NumL w v z) (hl : (limbs z.natAbs).length ≤ 137438953472) :
    Calls Tryz.prog 144 #[v] w fun e w' => e = .returned (.bool (decide (z = 0))) ∧ Below w.heap.size w w' := by
  obtain ⟨b, A, l, c, rfl, hlen, hc, hlim, hs⟩ := h
  have HLEN := Lib.hid hlen
  have HC := Lib.hid hc
  have HL := Lib.hid hl
  have HE := Lib.hid (show ((nbits z.natAbs : Nat) : Int) = 0 ↔ z = 0 by
    constructor
    · intro h0
      by_cases hz : z.natAbs = 0
      · omega
      · have := nbits_pos hz
        omega
    · intro h0; subst h0; rfl)
  clear hlen hc hl hs
  go_enter Tryz.func144, Tryz.ntmps144
  go_wp2_with fail
  have hb0 : Below w.heap.size w (w.alloc (.cells #[.bool b, .slice A l c, .int .i64 0] 122)) := (Below.refl _ w).alloc (Nat.le_refl _) _
  refine (ref_bits A l c (limbs z.natAbs) _ ((hlim.below hb0).more hb0.size) HLEN.out HC.out (by have := HL.out; have := HLEN.out; omega)).mono ?_
  rintro e w1 ⟨rfl, hb1⟩
  rw [val_limbs]
  obtain ⟨nb, hnb⟩ : ∃ nb : Int, ((nbits z.natAbs : Nat) : Int) = nb := ⟨_, rfl⟩
  have HNB := Lib.hid hnb
  rw [hnb]
  clear hnb
  go_wp2_with fail
  go_ret
  refine ⟨?_, hb0.trans (hb1.mono hb0.size)⟩
  have h1 := HE.out
  rw [HNB.out] at h1
  by_cases h0 : nb = 0
  · rw [decide_eq_true (h1.1 h0), h0]; rfl
  · rw [decide_eq_false (fun e => h0 (h1.2 e))]
    have t0 : (nb == 0) = false := beq_eq_false_iff_ne.2 h0
    show Ending.returned (.bool (nb == 0)) = _
    rw [t0]
end Go.Proofs.YtjbagikfogejnaaGreatDoor
/- The package rosetteref00: Times, Plus, Less. -/
namespace Go.Proofs.YtjbagikfogejnaaGreatDoor
open Go.RowKit Go.Deep
theorem Box3.noNum {w : World} {g : Nat} {x y z : Value} {t : TypeId} (h : Box3 w g t x y z) (hx : ∀ k : Int, x ≠ .int .u64 k) (hy : ∀ k : Int, y ≠ .int .u64 k) (hz : ∀ k : Int, z ≠ .int .u64 k) : NoNum w g := by
  intro p hp n
  obtain ⟨pb, off, m⟩ := p
  obtain rfl : pb = g := hp
  unfold Box3 at h
  unfold World.cell?
  simp only [h]
  split
  · simp
  · rcases off with _ | _ | _ | off
    · simpa using hx n
    · simpa using hy n
    · simpa using hz n
    · simp
theorem ext_store3 {w : World} {g : Nat} {a b c : Value} (h : NoNum w g) : Ext (· = g) w (((w.setCell ⟨g, 0, none⟩ a).setCell ⟨g, 1, none⟩ b).setCell ⟨g, 2, none⟩ c) := by
  refine ⟨rfl, rfl, rfl, by simp, fun i _ hi => ?_, fun i hi _ => by subst hi; exact h⟩
  rw [Below.heap_setCell _ _ _ i (by simpa using hi), Below.heap_setCell _ _ _ i (by simpa using hi), Below.heap_setCell _ _ _ i (by simpa using hi)]
theorem NumAt.store3 {w : World} {v : Value} {n : Int} {g : Nat} {x y z a b c : Value} (h : NumAt w v n) (hb : Box3 w g 122 x y z) (hx : ∀ k : Int, x ≠ .int .u64 k) (hy : ∀ k : Int, y ≠ .int .u64 k) (hz : ∀ k : Int, z ≠ .int .u64 k) :
    NumAt (((w.setCell ⟨g, 0, none⟩ a).setCell ⟨g, 1, none⟩ b).setCell ⟨g, 2, none⟩ c) v n := by
  obtain ⟨b', A, l, c', e, hl, hc, hlim, hs, ho⟩ := h
  have he := ext_store3 (a := a) (b := b) (c := c) (hb.noNum hx hy hz)
  exact ⟨b', A, l, c', e, hl, hc, (hlim.ext (Nat.le_refl _) he).more he.size, hs, ho.store3 hb⟩
theorem signed_mul' (a b : Bool) (m n : Nat) : signed (a != b) (m * n) = signed a m * signed b n := by
  cases a <;> cases b <;> simp [signed, Int.natCast_mul, Int.neg_mul, Int.mul_neg]
theorem signed_add_same (b : Bool) (m n : Nat) : signed b m + signed b n = signed b (m + n) := by
  cases b
  · show (m : Int) + (n : Int) = ((m + n : Nat) : Int); omega
  · show -(m : Int) + -(n : Int) = -((m + n : Nat) : Int); omega
theorem signed_add_ge {b b2 : Bool} {m n : Nat} (hb : (b == b2) = false) (h : n ≤ m) : signed b m + signed b2 n = signed b (m - n) := by
  cases b <;> cases b2
  · cases hb
  · show (m : Int) + -(n : Int) = ((m - n : Nat) : Int); omega
  · show -(m : Int) + (n : Int) = -((m - n : Nat) : Int); omega
  · cases hb
end Go.Proofs.YtjbagikfogejnaaGreatDoor
/- The package rosetteref00: Top, Whole, TellInt. -/
namespace Go.Proofs.YtjbagikfogejnaaGreatDoor
open Go.RowKit Go.Deep
set_option maxRecDepth 100000 in
theorem ref_of (x : Nat) (w : World) (hx : x < W64) :
    Calls Tryz.prog 115 #[.int .u64 (x : Int)] w fun e w' => ∃ v, e = .returned v ∧ Own w' w.heap.size v (limbs x) ∧ Below w.heap.size w w' := by
  have HX := Lib.hid hx
  clear hx
  go_enter Tryz.func115, Tryz.ntmps115
  go_wp2_with fail
  have hb : Below w.heap.size w (w.alloc (.cells #[.int .u64 (x : Int)] 41)) := (Below.refl _ w).alloc (Nat.le_refl _) _
  have ho : Own (w.alloc (.cells #[.int .u64 (x : Int)] 41)) w.heap.size (.slice (some ⟨w.heap.size, 0, none⟩) 1 1) [x] :=
    ⟨Small.one HX.out, rfl, .inr ⟨w.heap.size, 1, _, rfl, Nat.le_refl _, heap_alloc_new w _, Nat.le_refl _, by simp only [maxLen]; omega, rfl, rfl⟩⟩
  obtain ⟨A, c, e, hc, hlim, _⟩ := ho.form
  injection e with e1 e2 e3
  subst e1 e3
  clear e2
  refine (ref_trim (some ⟨w.heap.size, 0, none⟩) 1 1 [x] _ hlim rfl (Nat.le_refl _) (by omega)).mono ?_
  rintro e w1 ⟨v, rfl, ho1, hb1⟩
  rw [show val [x] = x by simp [val]] at ho1
  go_wp2_with fail
  go_ret
  exact ⟨v, rfl, ho1.mono hb.size, hb.trans (hb1.mono hb.size)⟩
set_option maxRecDepth 100000 in
theorem num_topL (v : Value) (z : Int) (w : World) (h : NumL w v z) (hl : (limbs z.natAbs).length ≤ 137438953472) :
    Calls Tryz.prog 145 #[v] w fun e w' => e = .returned (.int .i64 (nbits z.natAbs : Nat)) ∧ Below w.heap.size w w' := by
  obtain ⟨b, A, l, c, rfl, hlen, hc, hlim, hs⟩ := h
  have HLEN := Lib.hid hlen
  have HC := Lib.hid hc
  have HL := Lib.hid hl
  clear hlen hc hl hs
  go_enter Tryz.func145, Tryz.ntmps145
  go_upto_region 1 with (fail)
  have hb0 : Below w.heap.size w (w.alloc (.cells #[.bool b, .slice A l c, .int .i64 0] 122)) := (Below.refl _ w).alloc (Nat.le_refl _) _
  have hbx : Box3 (w.alloc (.cells #[.bool b, .slice A l c, .int .i64 0] 122)) w.heap.size 122 (.bool b) (.slice A l c) (.int .i64 0) := heap_alloc_new w _
  have hlim0 := (hlim.below hb0).more hb0.size
  generalize w.heap.size = g at hbx ⊢
  generalize w.alloc (.cells #[.bool b, .slice A l c, .int .i64 0] 122) = W0 at hbx hb0 hlim0 ⊢
  have a1 := later_cell hbx.cell1
  have a2 := later_cell hbx.cell2
  go_wp2_with fail
  refine wp_region_stages (fun w' => ∃ δ : Later Nix W0, w' = δ.world) [(false, 0), (false, 1), (false, 2), (false, 3), (true, 4)] 5 [.reads [_, _, _, _], .loud _] [_, _] (by kernel_rfl) (by kernel_rfl) rfl rfl ?_ ?_
  · exact ⟨⟨_, nix_drawn W0⟩, rfl⟩
  refine wpStages_reads ?_
  repeat (go_big_quiet_step (fail))
  refine wpQuiet_nil ?_
  refine wpStages_loud rfl ?_
  intro K hK
  go_big_op
  refine (ref_bits A l c (limbs z.natAbs) (W0.drewN 1) (hlim0.drewN 1) HLEN.out HC.out (by have := HL.out; have := HLEN.out; omega)).mono ?_
  rintro e w1 ⟨rfl, hb1⟩
  rw [val_limbs]
  have he1 : Ext Nix W0 w1 := (nix_drawn W0).later (Ext.of_below hb1)
  obtain ⟨nb, hnb⟩ : ∃ nb : Nat, nbits z.natAbs = nb := ⟨_, rfl⟩
  have hnbI : (nb : Int) ≤ 8796093022208 := by
    have h1 := nbits_le_lc z.natAbs
    have h2 := HL.out
    unfold lc at h1
    omega
  rw [hnb]
  have HNB := Lib.hid hnb
  clear hnb a1 a2
  refine hK _ _ ⟨⟨w1, he1⟩, rfl⟩ ?_
  clear hK K
  refine wpStages_nil ?_
  go_wp2_with fail
  go_ret
  rw [HNB.out]
  exact ⟨by rfl, hb0.trans (he1.below.mono hb0.size)⟩
theorem box2_store {W : World} {g : Nat} {x y a b : Value} {t : TypeId} (h : W.heap[g]? = some (.cells #[x, y] t (0, 0))) : ((W.setCell ⟨g, 0, none⟩ a).setCell ⟨g, 1, none⟩ b).heap[g]? = some (.cells #[a, b] t (0, 0)) := by
  simp [World.setCell, Array.getElem?_modify, h]
set_option maxHeartbeats 400000 in
set_option maxRecDepth 100000 in
theorem num_tellL (v : Value) (z : Int) (w : World) (h : NumL w v z) (hl : (limbs z.natAbs).length ≤ 137438953472) :
    Calls Tryz.prog 104 #[v] w fun e w' => ∃ b A k c, e = .returned (.tuple #[.agg #[.bool b, .slice A k c], .bool (decide (nbits z.natAbs ≤ 262144))]) ∧ (nbits z.natAbs ≤ 262144 → b = decide (z < 0) ∧ Own w' w.heap.size (.slice A k c) (limbs z.natAbs)) ∧ Below w.heap.size w w' := by
  have NZ := h
  obtain ⟨b, A, l, c, rfl, hlen, hc, hlim, hs⟩ := h
  have HLEN := Lib.hid hlen
  have HC := Lib.hid hc
  have HL := Lib.hid hl
  have HS := Lib.hid hs
  clear hlen hc hl hs
  go_enter Tryz.func104, Tryz.ntmps104
  go_upto_region 1 with (fail)
  have hbw : Below w.heap.size w ((w.alloc (.cells #[.bool b, .slice A l c, .int .i64 0] 122)).alloc (.cells #[.bool false, .slice none 0 0] 24)) := ((Below.refl _ w).alloc (Nat.le_refl _) _).alloc (by simp) _
  have bx : Box3 ((w.alloc (.cells #[.bool b, .slice A l c, .int .i64 0] 122)).alloc (.cells #[.bool false, .slice none 0 0] 24)) w.heap.size 122 (.bool b) (.slice A l c) (.int .i64 0) := by
    unfold Box3
    rw [Below.heap_alloc _ _ _ (by simp)]; exact heap_alloc_new w _
  have br : ((w.alloc (.cells #[.bool b, .slice A l c, .int .i64 0] 122)).alloc (.cells #[.bool false, .slice none 0 0] 24)).heap[w.heap.size + 1]? = some (.cells #[.bool false, .slice none 0 0] 24 (0, 0)) := by
    have h := heap_alloc_new (w.alloc (.cells #[.bool b, .slice A l c, .int .i64 0] 122)) (.cells #[.bool false, .slice none 0 0] 24)
    simpa using h
  obtain ⟨g, hg⟩ : ∃ g, w.heap.size = g := ⟨_, rfl⟩
  obtain ⟨r, hr⟩ : ∃ r, w.heap.size + 1 = r := ⟨_, rfl⟩
  rw [hr] at br ⊢
  rw [hg] at bx ⊢
  have HR := Lib.hid (show w.heap.size ≤ r by omega)
  have HGG := Lib.hid hg
  generalize (w.alloc (.cells #[.bool b, .slice A l c, .int .i64 0] 122)).alloc (.cells #[.bool false, .slice none 0 0] 24) = W0 at bx br hbw ⊢
  have HBW := Lib.hid (show Below w.heap.size w W0 from hbw)
  clear hg hr hbw
  have a0 := bx.cell0
  have a1 := bx.cell1
  have a2 := bx.cell2
  go_wp2_with fail
  refine (num_zeroL _ z W0 (NZ.below HBW.out) HL.out).mono ?_
  rintro e w1 ⟨rfl, hb1⟩
  have hbF : Below w.heap.size w w1 := HBW.out.trans (hb1.mono HBW.out.size)
  have brL : r < W0.heap.size := (Array.getElem?_eq_some_iff.1 br).1
  have br1 : w1.heap[r]? = some (.cells #[.bool false, .slice none 0 0] 24 (0, 0)) := by rw [hb1.block r brL]; exact br
  have bx1 := bx.below hb1 bx.lt
  have d0 : w1.cell? ⟨r, 0, none⟩ = some (.bool false) := by rw [cell_of_row w1 r 0 _ _ (0, 0) br1]; rfl
  have d1 : w1.cell? ⟨r, 1, none⟩ = some (.slice none 0 0) := by rw [cell_of_row w1 r 1 _ _ (0, 0) br1]; rfl
  have f0 : ∀ k, w1.frozen? ⟨r, k, none⟩ = false := fun k => by simp [World.frozen?, br1]
  by_cases hz : z = 0
  · rw [decide_eq_true hz]
    have HZ := Lib.hid hz
    clear hz
    go_wp2_with fail
    have hst := box2_store (a := .bool false) (b := .slice none 0 0) br1
    refine bodyPost_ret (v := .tuple #[.agg #[.bool false, (.slice none 0 0)], .bool true]) (by
      rw [results_cell_tmp rfl]
      have hld := run_loadVar_row (P := Tryz.prog) _ r 24 24 #[.bool false, (.slice none 0 0)] (0, 0) _ hst Tryz.underlying24 rfl (by kernel_rfl)
      simp [asAddr, Result.andThen, hld]) rfl ?_
    refine ⟨false, none, 0, 0, by rw [HZ.out]; rfl, fun _ => ⟨by rw [HZ.out]; rfl, by rw [HZ.out]; exact (show limbs (0 : Int).natAbs = [] by simp [limbs_zero]) ▸ Own.nil _ _⟩, (hbF.setCell (p := ⟨r, 0, none⟩) HR.out _).setCell (p := ⟨r, 1, none⟩) HR.out _⟩
  · rw [decide_eq_false hz]
    have HZ := Lib.hid hz
    clear hz
    have a0 := bx1.cell0
    have a1 := bx1.cell1
    have a2 := bx1.cell2
    go_wp2_with fail
    refine (num_topL _ z w1 (NZ.below hbF) HL.out).mono ?_
    rintro e w2 ⟨rfl, hb2⟩
    have hbF2 : Below w.heap.size w w2 := hbF.trans (hb2.mono hbF.size)
    have br2 : w2.heap[r]? = some (.cells #[.bool false, .slice none 0 0] 24 (0, 0)) := by rw [hb2.block r (Array.getElem?_eq_some_iff.1 br1).1]; exact br1
    have bx2 := bx1.below hb2 bx1.lt
    have d0 : w2.cell? ⟨r, 0, none⟩ = some (.bool false) := by rw [cell_of_row w2 r 0 _ _ (0, 0) br2]; rfl
    have d1 : w2.cell? ⟨r, 1, none⟩ = some (.slice none 0 0) := by rw [cell_of_row w2 r 1 _ _ (0, 0) br2]; rfl
    have f0 : ∀ k, w2.frozen? ⟨r, k, none⟩ = false := fun k => by simp [World.frozen?, br2]
    obtain ⟨nb, hnb⟩ : ∃ nb : Nat, nbits z.natAbs = nb := ⟨_, rfl⟩
    rw [hnb]
    by_cases hlong : 262144 < nb
    · have hlI : (262144 : Int) < (nb : Int) := by omega
      have HD := Lib.hid (show decide (nbits z.natAbs ≤ 262144) = false ∧ ¬ nbits z.natAbs ≤ 262144 from ⟨decide_eq_false (by omega), by omega⟩)
      clear hlong hnb
      go_wp2_with fail
      have hst := box2_store (a := .bool false) (b := .slice none 0 0) br2
      refine bodyPost_ret (v := .tuple #[.agg #[.bool false, (.slice none 0 0)], .bool false]) (by
        rw [results_cell_tmp rfl]
        have hld := run_loadVar_row (P := Tryz.prog) _ r 24 24 #[.bool false, (.slice none 0 0)] (0, 0) _ hst Tryz.underlying24 rfl (by kernel_rfl)
        simp [asAddr, Result.andThen, hld]) rfl ?_
      exact ⟨false, none, 0, 0, by rw [HD.out.1], fun h => absurd h HD.out.2, (hbF2.setCell (p := ⟨r, 0, none⟩) HR.out _).setCell (p := ⟨r, 1, none⟩) HR.out _⟩
    · have hlI : (nb : Int) ≤ 262144 := by omega
      have HD := Lib.hid (show decide (nbits z.natAbs ≤ 262144) = true from decide_eq_true (by omega))
      have HB := Lib.hid (show b = decide (z < 0) by
        have h1 := HS.out
        have h2 := HZ.out
        cases b
        · have h1 : (z.natAbs : Int) = z := h1
          rw [decide_eq_false (by omega)]
        · have h1 : -(z.natAbs : Int) = z := h1
          rw [decide_eq_true (by omega)])
      clear hlong hnb
      have r0 := later_cell bx2.cell0
      have r1 := later_cell bx2.cell1
      have r2 := later_cell bx2.cell2
      have hlim2 := (hlim.below hbF2).more hbF2.size
      clear a0 a1 a2 d0 d1 f0
      go_wp2_with fail
      refine wp_region_stages (fun w' => ∃ δ : Later Nix w2, w' = δ.world) [(false, 0), (false, 1), (false, 2), (false, 3), (false, 4), (false, 5), (true, 6)] 7 [.reads [_, _, _, _, _, _], .loud _] [_, _, _] (by kernel_rfl) (by kernel_rfl) rfl rfl ?_ ?_
      · exact ⟨⟨_, nix_drawn w2⟩, rfl⟩
      refine wpStages_reads ?_
      repeat (go_big_quiet_step (fail))
      refine wpQuiet_nil ?_
      refine wpStages_loud rfl ?_
      intro K hK
      go_big_op
      have hup := ref_up A l c 0 (limbs z.natAbs) (w2.drewN 1) (hlim2.drewN 1) HLEN.out (by have := HL.out; have := HLEN.out; omega) (by omega)
      rw [val_limbs, Nat.pow_zero, Nat.mul_one, show ((0 : Nat) : Int) = 0 from rfl] at hup
      refine hup.mono ?_
      rintro e w3 ⟨v3, rfl, ho3, hb3⟩
      have he3 : Ext Nix w2 w3 := (nix_drawn w2).later (Ext.of_below hb3)
      have hbF3 : Below w.heap.size w w3 := hbF2.trans (he3.below.mono hbF2.size)
      have br3 : w3.heap[r]? = some (.cells #[.bool false, .slice none 0 0] 24 (0, 0)) := by rw [he3.below.block r (Array.getElem?_eq_some_iff.1 br2).1]; exact br2
      have d0 : w3.cell? ⟨r, 0, none⟩ = some (.bool false) := by rw [cell_of_row w3 r 0 _ _ (0, 0) br3]; rfl
      have d1 : w3.cell? ⟨r, 1, none⟩ = some (.slice none 0 0) := by rw [cell_of_row w3 r 1 _ _ (0, 0) br3]; rfl
      have f0 : ∀ k, w3.frozen? ⟨r, k, none⟩ = false := fun k => by simp [World.frozen?, br3]
      refine hK _ _ ⟨⟨w3, he3⟩, rfl⟩ ?_
      clear hK K r0 r1 r2
      refine wpStages_nil ?_
      obtain ⟨A3, k3, c3, rfl⟩ := ho3.slice
      have HO := Lib.hid ho3
      clear ho3
      go_wp2_with fail
      have hst := box2_store (a := .bool b) (b := .slice A3 k3 c3) br3
      refine bodyPost_ret (v := .tuple #[.agg #[.bool b, (.slice A3 k3 c3)], .bool true]) (by
        rw [results_cell_tmp rfl]
        have hld := run_loadVar_row (P := Tryz.prog) _ r 24 24 #[.bool b, (.slice A3 k3 c3)] (0, 0) _ hst Tryz.underlying24 rfl (by kernel_rfl)
        simp [asAddr, Result.andThen, hld]) rfl ?_
      refine ⟨b, A3, k3, c3, by rw [HD.out], fun _ => ⟨HB.out, ?_⟩, (hbF3.setCell (p := ⟨r, 0, none⟩) HR.out _).setCell (p := ⟨r, 1, none⟩) HR.out _⟩
      have hne : ∀ k, (Value.slice A3 k3 c3).ownBlock = some k → k ≠ r := by
        intro k hk e
        subst e
        obtain ⟨cs, hcs⟩ := HO.out.type hk
        rw [hcs] at br3
        simp at br3
      exact ((HO.out.mono hbF2.size).far ⟨r, 0, none⟩ _ hne).far ⟨r, 1, none⟩ _ hne
end Go.Proofs.YtjbagikfogejnaaGreatDoor
/- Plain laws of whole roots: the greatest number whose n-th power is not above a number; going down to it (Newton); bit by bit; powers. -/
namespace Go.Proofs.YtjbagikfogejnaaGreatDoor
/-- The greatest number up to a bound whose n-th power is not above a. -/
def irootTo (n a : Nat) : Nat → Nat
  | 0 => 0
  | r + 1 => if (r + 1) ^ n ≤ a then r + 1 else irootTo n a r
def iroot (n a : Nat) : Nat := irootTo n a a
theorem irootTo_pow {n a : Nat} (hn : 1 ≤ n) : ∀ b, (irootTo n a b) ^ n ≤ a
  | 0 => by show 0 ^ n ≤ a; rw [Nat.zero_pow hn]; exact Nat.zero_le _
  | r + 1 => by
    unfold irootTo
    split
    · assumption
    · exact irootTo_pow hn r
theorem irootTo_max {n a : Nat} : ∀ b r, r ≤ b → r ^ n ≤ a → r ≤ irootTo n a b
  | 0, r, h, _ => by show r ≤ 0; exact h
  | b + 1, r, h, hr => by
    unfold irootTo
    split
    · exact h
    · rename_i hne
      by_cases e : r = b + 1
      · subst e; exact absurd hr hne
      · exact irootTo_max b r (by omega) hr
theorem rle_pow_of {n r : Nat} (hn : 1 ≤ n) : r ≤ r ^ n := by
  rcases Nat.eq_zero_or_pos r with h | h
  · omega
  · have := Nat.pow_le_pow_right h hn
    rwa [Nat.pow_one] at this
theorem iroot_pow {n : Nat} (hn : 1 ≤ n) (a : Nat) : iroot n a ^ n ≤ a := irootTo_pow hn a
theorem iroot_max {n a r : Nat} (hn : 1 ≤ n) (h : r ^ n ≤ a) : r ≤ iroot n a := irootTo_max a r (Nat.le_trans (rle_pow_of hn) h) h
theorem pow_lt_of {n a b : Nat} (hn : 1 ≤ n) (h : a < b) : a ^ n < b ^ n := Nat.pow_lt_pow_left h (by omega)
theorem lt_of_pow_lt {n a b : Nat} (h : a ^ n < b ^ n) : a < b := by
  refine Nat.lt_of_not_le fun h2 => ?_
  have := Nat.pow_le_pow_left h2 n
  omega
theorem pow_inj_of {n a b : Nat} (hn : 1 ≤ n) (h : a ^ n = b ^ n) : a = b := by
  rcases Nat.lt_trichotomy a b with h1 | h1 | h1
  · have := pow_lt_of hn h1; omega
  · exact h1
  · have := pow_lt_of hn h1; omega
theorem iroot_eq {n a r : Nat} (hn : 1 ≤ n) (h1 : r ^ n ≤ a) (h2 : a < (r + 1) ^ n) : iroot n a = r := by
  have h3 := iroot_max hn h1
  have h4 : iroot n a < r + 1 := lt_of_pow_lt (Nat.lt_of_le_of_lt (iroot_pow hn a) h2)
  omega
theorem iroot_of_pow {n : Nat} (hn : 1 ≤ n) (b : Nat) : iroot n (b ^ n) = b := iroot_eq hn (Nat.le_refl _) (pow_lt_of hn (by omega))
/-! ### bit by bit -/
/-- Behind the bits from i on: r is a multiple of 2^i, r^n is not above a, (r + 2^i)^n is. -/
structure Bitwise (a n i r : Nat) : Prop where
  mult : 2 ^ i ∣ r
  low : r ^ n ≤ a
  high : a < (r + 2 ^ i) ^ n
theorem Bitwise.start {a n i : Nat} (hn : 1 ≤ n) (h : a < (2 ^ i) ^ n) : Bitwise a n i 0 := ⟨⟨0, by simp⟩, by rw [Nat.zero_pow hn]; omega, by rwa [Nat.zero_add]⟩
theorem Bitwise.up {a n i r : Nat} (h : Bitwise a n (i + 1) r) (hf : (r + 2 ^ i) ^ n ≤ a) : Bitwise a n i (r + 2 ^ i) := by
  refine ⟨Nat.dvd_add (Nat.dvd_trans (Nat.pow_dvd_pow 2 (by omega)) h.mult) (Nat.dvd_refl _), hf, ?_⟩
  have h1 := h.high
  rw [Nat.pow_succ] at h1
  rwa [show r + 2 ^ i + 2 ^ i = r + 2 ^ i * 2 by omega]
theorem Bitwise.stay {a n i r : Nat} (h : Bitwise a n (i + 1) r) (hf : ¬ (r + 2 ^ i) ^ n ≤ a) : Bitwise a n i r :=
  ⟨Nat.dvd_trans (Nat.pow_dvd_pow 2 (by omega)) h.mult, h.low, by omega⟩
theorem Bitwise.root {a n r : Nat} (hn : 1 ≤ n) (h : Bitwise a n 0 r) : iroot n a = r := iroot_eq hn h.low h.high
/-! ### one number as a power in two ways -/
theorem pow_gt_one {z k : Nat} (hz : 2 ≤ z) : 2 ^ k ≤ z ^ k := Nat.pow_le_pow_left hz k
theorem two_le_of_pow {x z k : Nat} (h : z ^ k = x) (hx : 2 ≤ x) : 2 ≤ z := by
  rcases Nat.lt_or_ge z 2 with h2 | h2
  · exfalso
    have : z ^ k ≤ 1 := by
      have := Nat.pow_le_pow_left (show z ≤ 1 by omega) k
      rwa [Nat.one_pow] at this
    omega
  · exact h2
theorem bezout_turn {m k x y : Nat} (hm : 1 ≤ m) (hk : 1 ≤ k) (h : x * k = 1 + y * m) : ∃ u v : Nat, u * m = 1 + v * k := by
  obtain ⟨t, ht⟩ : ∃ t, t = x + y + 1 := ⟨_, rfl⟩
  have h1 : x ≤ t * m := Nat.le_trans (show x ≤ t by omega) (Nat.le_mul_of_pos_right _ hm)
  have h2 : y ≤ t * k := Nat.le_trans (show y ≤ t by omega) (Nat.le_mul_of_pos_right _ hk)
  refine ⟨t * k - y, t * m - x, ?_⟩
  rw [Nat.sub_mul, Nat.sub_mul]
  have h3 : y * m ≤ t * k * m := Nat.mul_le_mul_right _ h2
  have h4 : x * k ≤ t * m * k := Nat.mul_le_mul_right _ h1
  have h5 : t * k * m = t * m * k := by grind
  omega
theorem bezout_of (k m : Nat) (hm : 1 ≤ m) (hk : 1 ≤ k) (hc : Nat.Coprime m k) : ∃ u v : Nat, u * m = 1 + v * k := by
  induction m using Nat.strongRecOn generalizing k with
  | _ m ih =>
    by_cases h1 : m = 1
    · subst h1; exact ⟨1, 0, by simp⟩
    · have hs : Nat.Coprime (k % m) m := by
        unfold Nat.Coprime at hc ⊢
        rw [← Nat.gcd_rec]; exact hc
      have hs1 : 1 ≤ k % m := by
        rcases Nat.eq_zero_or_pos (k % m) with h0 | h0
        · rw [h0] at hs
          unfold Nat.Coprime at hs
          rw [Nat.gcd_zero_left] at hs
          exact absurd hs h1
        · exact h0
      obtain ⟨u, v, huv⟩ := ih (k % m) (Nat.mod_lt _ hm) m hs1 hm hs
      refine bezout_turn hm hk (x := u) (y := v + u * (k / m)) ?_
      have h2 := Nat.div_add_mod k m
      generalize k / m = q at *
      generalize k % m = s at *
      subst h2
      rw [Nat.add_mul, Nat.mul_add, huv]
      grind
/-- x to the power m is y to the power k, and m, k have no common divisor: both are powers of one. -/
theorem pow_common {x y m k : Nat} (hm : 1 ≤ m) (hk : 1 ≤ k) (hc : Nat.Coprime m k) (h : x ^ m = y ^ k) : ∃ z, z ^ k = x ∧ z ^ m = y := by
  rcases Nat.eq_zero_or_pos x with hx | hx
  · subst hx
    rw [Nat.zero_pow hm] at h
    have hy : y = 0 := by
      rcases Nat.eq_zero_or_pos y with h0 | h0
      · exact h0
      · have := Nat.pow_pos (n := k) h0; omega
    exact ⟨0, by rw [Nat.zero_pow hk], by rw [Nat.zero_pow hm, hy]⟩
  · obtain ⟨u, v, huv⟩ := bezout_of k m hm hk hc
    have h1 : (y ^ u) ^ k = x * (x ^ v) ^ k := by
      rw [← Nat.pow_mul, Nat.mul_comm u k, Nat.pow_mul, ← h, ← Nat.pow_mul, Nat.mul_comm m u, huv, Nat.pow_add, Nat.pow_one, ← Nat.pow_mul]
    have h2 : x ^ v ∣ y ^ u := (Nat.pow_dvd_pow_iff (n := k) (by omega)).1 ⟨x, by rw [h1, Nat.mul_comm]⟩
    obtain ⟨z, hz⟩ := h2
    have h3 : z ^ k = x := by
      rw [hz, Nat.mul_pow, Nat.mul_comm] at h1
      exact Nat.eq_of_mul_eq_mul_right (Nat.pow_pos (Nat.pow_pos hx)) h1
    refine ⟨z, h3, pow_inj_of hk ?_⟩
    rw [← Nat.pow_mul, Nat.mul_comm m k, Nat.pow_mul, h3, h]
/-! ### perfect powers -/
/-- The exponents that may be. -/
def okE (neg : Bool) (q : Nat) : Prop := neg = true → q % 2 = 1
theorem okE_mul {neg : Bool} {p q : Nat} (h : okE neg p) (k : okE neg q) : okE neg (p * q) := fun hn => by
  rw [Nat.mul_mod, h hn, k hn]
theorem okE_dvd {neg : Bool} {p q : Nat} (h : okE neg q) (hd : p ∣ q) : okE neg p := fun hn => by
  have h1 := h hn
  obtain ⟨c, rfl⟩ := hd
  rcases Nat.mod_two_eq_zero_or_one p with h2 | h2
  · rw [Nat.mul_mod, h2, Nat.zero_mul] at h1
    exact absurd h1 (by decide)
  · exact h2
/-- x to the power n is a, and x is no power that may be. -/
structure Perf (neg : Bool) (a x n : Nat) : Prop where
  pow : x ^ n = a
  pos : 1 ≤ n
  ok : okE neg n
  none : ∀ q, 2 ≤ q → okE neg q → ∀ z, z ^ q ≠ x
/-- Every exponent that a is a power with divides the one. -/
theorem Perf.divides {neg : Bool} {a x n : Nat} (h : Perf neg a x n) {y k : Nat} (hk : 1 ≤ k) (ho : okE neg k) (hy : y ^ k = a) : ∃ j, n = k * j ∧ y = x ^ j := by
  obtain ⟨d, hd⟩ : ∃ d, Nat.gcd n k = d := ⟨_, rfl⟩
  have hd0 : 0 < d := by rw [← hd]; exact Nat.gcd_pos_of_pos_right _ hk
  obtain ⟨n', hn'⟩ : d ∣ n := hd ▸ Nat.gcd_dvd_left n k
  obtain ⟨k', hk'⟩ : d ∣ k := hd ▸ Nat.gcd_dvd_right n k
  have hc : Nat.Coprime n' k' := by
    unfold Nat.Coprime
    have h1 : d * Nat.gcd n' k' = d * 1 := by rw [← Nat.gcd_mul_left, ← hn', ← hk', hd, Nat.mul_one]
    exact Nat.eq_of_mul_eq_mul_left hd0 h1
  have hn1 : 1 ≤ n' := by
    have := h.pos
    rcases Nat.eq_zero_or_pos n' with h0 | h0
    · subst h0; simp at hn'; omega
    · exact h0
  have hk1 : 1 ≤ k' := by
    rcases Nat.eq_zero_or_pos k' with h0 | h0
    · subst h0; simp at hk'; omega
    · exact h0
  have he : x ^ n' = y ^ k' := by
    refine pow_inj_of hd0 ?_
    rw [← Nat.pow_mul, ← Nat.pow_mul, Nat.mul_comm n' d, Nat.mul_comm k' d, ← hn', ← hk', h.pow, hy]
  obtain ⟨z, h1, h2⟩ := pow_common hn1 hk1 hc he
  by_cases hk2 : k' = 1
  · subst hk2
    rw [Nat.mul_one] at hk'
    subst hk'
    rw [Nat.pow_one] at h1 he
    exact ⟨n', hn', he.symm⟩
  · exact absurd h1 (h.none k' (by omega) (okE_dvd ho ⟨d, by rw [hk', Nat.mul_comm]⟩) z)
/-- The greatest exponent is the one. -/
theorem Perf.only {neg : Bool} {a x n : Nat} (h : Perf neg a x n) {y k : Nat} (hk : 1 ≤ k) (ho : okE neg k) (hy : y ^ k = a) (hmax : ∀ q, k < q → okE neg q → ∀ z, z ^ q ≠ a) : k = n ∧ y = x := by
  obtain ⟨j, h1, h2⟩ := h.divides hk ho hy
  have hp := h.pos
  rcases Nat.lt_trichotomy j 1 with hj | hj | hj
  · obtain rfl : j = 0 := by omega
    rw [Nat.mul_zero] at h1
    omega
  · subst hj
    rw [Nat.mul_one] at h1
    rw [Nat.pow_one] at h2
    exact ⟨h1.symm, h2⟩
  · exfalso
    refine hmax n ?_ h.ok x h.pow
    rw [h1]
    have := Nat.mul_le_mul_left k (show 2 ≤ j by omega)
    omega
/-- The loop over the exponents: below p there is none left. -/
structure PStep (neg : Bool) (a p x n : Nat) : Prop where
  pow : x ^ n = a
  pos : 1 ≤ n
  ok : okE neg n
  two : 2 ≤ x
  none : ∀ q, 2 ≤ q → q < p → okE neg q → ∀ z, z ^ q ≠ x
theorem PStep.start {neg : Bool} {a : Nat} (ha : 2 ≤ a) : PStep neg a 0 a 1 := ⟨Nat.pow_one a, Nat.le_refl _, fun _ => rfl, ha, fun q h1 h2 => by omega⟩
theorem PStep.skip {neg : Bool} {a p x n : Nat} (h : PStep neg a p x n) (hp : p < 2 ∨ ¬ okE neg p) : PStep neg a (p + 1) x n :=
  ⟨h.pow, h.pos, h.ok, h.two, fun q h1 h2 h3 => by
    by_cases e : q = p
    · subst e
      rcases hp with hp | hp
      · omega
      · exact absurd h3 hp
    · exact h.none q h1 (by omega) h3⟩
theorem PStep.down {neg : Bool} {a p x n r : Nat} (h : PStep neg a p x n) (hp : 2 ≤ p) (ho : okE neg p) (hr : r ^ p = x) : PStep neg a p r (n * p) :=
  ⟨by rw [Nat.mul_comm, Nat.pow_mul, hr, h.pow], Nat.mul_pos h.pos (by omega), okE_mul h.ok ho, two_le_of_pow hr h.two, fun q h1 h2 h3 z hz =>
    h.none q h1 h2 h3 (z ^ p) (by rw [← Nat.pow_mul, Nat.mul_comm p q, Nat.pow_mul, hz, hr])⟩
theorem pow_bits {z q x : Nat} (h : z ^ q = x) (hx : 2 ≤ x) : q < nbits x := by
  have h1 := two_le_of_pow h hx
  have h2 := pow_gt_one (k := q) h1
  rw [h] at h2
  refine Nat.lt_of_not_le fun h3 => ?_
  rw [nbits_le] at h3
  omega
theorem PStep.next {neg : Bool} {a p x n : Nat} (h : PStep neg a p x n) (hp : 1 ≤ p) (hr : nbits x ≤ p ∨ iroot p x ^ p ≠ x) : PStep neg a (p + 1) x n :=
  ⟨h.pow, h.pos, h.ok, h.two, fun q h1 h2 h3 z hz => by
    by_cases e : q = p
    · subst e
      rcases hr with hr | hr
      · have := pow_bits hz h.two
        omega
      · subst hz
        rw [iroot_of_pow hp] at hr
        exact hr rfl
    · exact h.none q h1 (by omega) h3 z hz⟩
theorem PStep.le {neg : Bool} {a p x n : Nat} (h : PStep neg a p x n) : x ≤ a := by
  rw [← h.pow]; exact rle_pow_of h.pos
theorem PStep.perf {neg : Bool} {a p x n : Nat} (h : PStep neg a p x n) (hp : nbits a ≤ p) : Perf neg a x n :=
  ⟨h.pow, h.pos, h.ok, fun q h1 h2 z hz => by
    by_cases hq : q < p
    · exact h.none q h1 hq h2 z hz
    · have h3 := pow_bits hz h.two
      have h4 := nbits_mono h.le
      omega⟩
theorem PStep.exp_lt {neg : Bool} {a p x n : Nat} (h : PStep neg a p x n) : n < nbits a := by
  have h1 := pow_gt_one (k := n) h.two
  rw [h.pow] at h1
  refine Nat.lt_of_not_le fun h3 => ?_
  rw [nbits_le] at h3
  omega
end Go.Proofs.YtjbagikfogejnaaGreatDoor
/- The reference of layer 18: one, power, Root. -/
namespace Go.Proofs.YtjbagikfogejnaaGreatDoor
open Go.RowKit Go.Deep
/-- A value is a slice of a number's limbs. -/
def NatAt (w : World) (v : Value) (n : Nat) : Prop := ∃ A l c, v = .slice A l c ∧ l = (limbs n).length ∧ l ≤ c ∧ Lim w w.heap.size A (limbs n)
theorem NatAt.below {w w' : World} {v : Value} {n : Nat} (h : NatAt w v n) (hb : Below w.heap.size w w') : NatAt w' v n := by
  obtain ⟨A, l, c, rfl, hl, hc, hlim⟩ := h
  exact ⟨A, l, c, rfl, hl, hc, (hlim.below hb).more hb.size⟩
theorem NatAt.of_own {w : World} {base : Nat} {v : Value} {n : Nat} (h : Own w base v (limbs n)) : NatAt w v n := by
  obtain ⟨A, c, rfl, hc, hlim, _⟩ := h.form
  exact ⟨A, _, c, rfl, rfl, hc, hlim⟩
theorem NatAt.open {w : World} {v : Value} {n : Nat} (h : NatAt w v n) : ∃ A l c, v = .slice A l c ∧ Hid (l = (limbs n).length) ∧ Hid (l ≤ c) ∧ Hid (Lim w w.heap.size A (limbs n)) ∧ Hid (NatAt w (.slice A l c) n) := by
  obtain ⟨A, l, c, rfl, hl, hc, hlim⟩ := h
  exact ⟨A, l, c, rfl, Lib.hid hl, Lib.hid hc, Lib.hid hlim, Lib.hid ⟨A, l, c, rfl, hl, hc, hlim⟩⟩
theorem NatAt.nil (w : World) : NatAt w (.slice none 0 0) 0 := ⟨none, 0, 0, rfl, by simp [limbs_zero], Nat.le_refl _, by simpa [limbs_zero] using Lim.nil _ _ _⟩
/-! Its functions on numbers. -/
section
variable {w : World} {u v : Value} {x y : Nat}
theorem nat_mul (hu : NatAt w u x) (hv : NatAt w v y) (lx : lc x ≤ 137438953472) (ly : lc y ≤ 137438953472) : Calls Tryz.prog 77 #[u, v] w fun e w' => ∃ r, e = .returned r ∧ NatAt w' r (x * y) ∧ Own w' w.heap.size r (limbs (x * y)) ∧ Below w.heap.size w w' := by
  obtain ⟨A1, l1, c1, rfl, e1, hc1, h1⟩ := hu
  obtain ⟨A2, l2, c2, rfl, e2, hc2, h2⟩ := hv
  refine (ref_mul A1 A2 l1 l2 c1 c2 _ _ w h1 h2 e1 e2 (by rw [e1]; exact lx) (by rw [e2]; exact ly)).mono ?_
  rintro e w' ⟨r, rfl, ho, hb⟩
  rw [val_limbs, val_limbs] at ho
  exact ⟨r, rfl, NatAt.of_own ho, ho, hb⟩
theorem nat_add (hu : NatAt w u x) (hv : NatAt w v y) (lx : lc x ≤ 137438953472) (ly : lc y ≤ 137438953472) : Calls Tryz.prog 103 #[u, v] w fun e w' => ∃ r, e = .returned r ∧ NatAt w' r (x + y) ∧ Own w' w.heap.size r (limbs (x + y)) ∧ Below w.heap.size w w' := by
  obtain ⟨A1, l1, c1, rfl, e1, hc1, h1⟩ := hu
  obtain ⟨A2, l2, c2, rfl, e2, hc2, h2⟩ := hv
  refine (ref_add A1 A2 l1 l2 c1 c2 _ _ w h1 h2 e1 e2 (by rw [e1]; exact lx) (by rw [e2]; exact ly)).mono ?_
  rintro e w' ⟨r, rfl, ho, hb⟩
  rw [val_limbs, val_limbs] at ho
  exact ⟨r, rfl, NatAt.of_own ho, ho, hb⟩
theorem nat_sub (hu : NatAt w u x) (hv : NatAt w v y) (lx : lc x ≤ 137438953472) (ly : lc y ≤ 137438953472) (hle : y ≤ x) : Calls Tryz.prog 101 #[u, v] w fun e w' => ∃ r, e = .returned r ∧ NatAt w' r (x - y) ∧ Own w' w.heap.size r (limbs (x - y)) ∧ Below w.heap.size w w' := by
  obtain ⟨A1, l1, c1, rfl, e1, hc1, h1⟩ := hu
  obtain ⟨A2, l2, c2, rfl, e2, hc2, h2⟩ := hv
  refine (ref_sub A1 A2 l1 l2 c1 c2 _ _ w h1 h2 e1 e2 (by rw [e1]; exact lx) (by rw [e2]; exact ly) (by rw [val_limbs, val_limbs]; exact hle)).mono ?_
  rintro e w' ⟨r, rfl, ho, hb⟩
  rw [val_limbs, val_limbs] at ho
  exact ⟨r, rfl, NatAt.of_own ho, ho, hb⟩
theorem nat_cmp (hu : NatAt w u x) (hv : NatAt w v y) (lx : lc x ≤ 1099511627776) (ly : lc y ≤ 1099511627776) : Calls Tryz.prog 68 #[u, v] w fun e w' => e = .returned (.int .i64 (cmpN x y)) ∧ Below w.heap.size w w' := by
  obtain ⟨A1, l1, c1, rfl, e1, hc1, h1⟩ := hu
  obtain ⟨A2, l2, c2, rfl, e2, hc2, h2⟩ := hv
  have k := ref_cmp A1 A2 l1 l2 c1 c2 _ _ w h1 h2 e1 e2 hc1 hc2 (by rw [e1]; exact lx) (by rw [e2]; exact ly)
  rw [val_limbs, val_limbs] at k
  exact k
theorem nat_bits (hu : NatAt w u x) (lx : lc x ≤ 1099511627776) : Calls Tryz.prog 78 #[u] w fun e w' => e = .returned (.int .i64 (nbits x : Nat)) ∧ Below w.heap.size w w' := by
  obtain ⟨A1, l1, c1, rfl, e1, hc1, h1⟩ := hu
  have k := ref_bits A1 l1 c1 _ w h1 e1 hc1 (by rw [e1]; exact lx)
  rw [val_limbs] at k
  exact k
theorem nat_trim (hu : NatAt w u x) (lx : lc x ≤ 1099511627776) : Calls Tryz.prog 65 #[u] w fun e w' => ∃ r, e = .returned r ∧ NatAt w' r x ∧ Own w' w.heap.size r (limbs x) ∧ Below w.heap.size w w' := by
  obtain ⟨A1, l1, c1, rfl, e1, hc1, h1⟩ := hu
  refine (ref_trim A1 l1 c1 _ w h1 e1 hc1 (by rw [e1]; exact lx)).mono ?_
  rintro e w' ⟨r, rfl, ho, hb⟩
  rw [val_limbs] at ho
  exact ⟨r, rfl, NatAt.of_own ho, ho, hb⟩
end
/-- What power tells: the power, or something above most, if the power is. -/
structure PowS (x most n p : Nat) : Prop where
  or : p = x ^ n ∨ (most < p ∧ most < x ^ n)
  len : lc p ≤ lc most + lc x + 1
theorem PowS.step {x most i p : Nat} (hp : p = x ^ i) (hm : i = 0 ∨ p ≤ most) : lc (p * x) ≤ lc most + lc x + 1 := by
  have h1 := lc_mul p x
  rcases hm with h0 | hm
  · subst h0
    rw [Nat.pow_zero] at hp
    subst hp
    have := lc_limb (x := 1) (by rw [W64_eq]; omega)
    omega
  · have := lc_mono hm
    omega
end Go.Proofs.YtjbagikfogejnaaGreatDoor
/- What is known of a world stays: one word for all kinds of facts; and stays when a record's box is written. -/
namespace Go.Proofs.YtjbagikfogejnaaGreatDoor
open Go.RowKit Go.Deep
/-- Since w0 only new memory was written. -/
abbrev Since (w0 w : World) : Prop := Below w0.heap.size w0 w
theorem Since.stay {w0 w w' : World} (h : Since w0 w) (hb : Below w.heap.size w w') : Since w0 w' := h.trans (hb.mono h.size)
theorem Lim.stay {w w' : World} {A : Option Addr} {xs : List Nat} (h : Lim w w.heap.size A xs) (hb : Below w.heap.size w w') : Lim w' w'.heap.size A xs := (h.below hb).more hb.size
theorem IntV.stay {w w' : World} {v : Value} {z : Int} (h : IntV w v z) (hb : Below w.heap.size w w') : IntV w' v z := h.below hb
theorem RawV.stay {w w' : World} {v : Value} {x : Raw} (h : RawV w v x) (hb : Below w.heap.size w w') : RawV w' v x := h.below hb
theorem RawAt.stay {w w' : World} {base : Nat} {v : Value} {x : Raw} (h : RawAt w base v x) (hb : Below w.heap.size w w') : RawAt w' base v x := h.below hb
theorem NatAt.stay {w w' : World} {v : Value} {n : Nat} (h : NatAt w v n) (hb : Below w.heap.size w w') : NatAt w' v n := h.below hb
theorem Box2.stay {w w' : World} {g : Nat} {x y : Value} (h : Box2 w g x y) (hb : Below w.heap.size w w') : Box2 w' g x y := h.below hb h.lt
theorem Fresh.stay {w w' : World} {base : Nat} {A : Option Addr} {c : Nat} (h : Fresh w base A c) (hb : Below w.heap.size w w') : Fresh w' base A c := h.below hb
theorem IntAt.stay {w w' : World} {g : Nat} {z : Int} (h : IntAt w g z) (hb : Below w.heap.size w w') : IntAt w' g z := h.below hb
/-- So many blocks there are. -/
def Blocks (w : World) (n : Nat) : Prop := n ≤ w.heap.size
theorem Blocks.stay {w w' : World} {n : Nat} (h : Blocks w n) (hb : Below w.heap.size w w') : Blocks w' n := Nat.le_trans h hb.size
/-- A variable of one cell. -/
def Cell1 (w : World) (g : Nat) (x : Value) : Prop := ∃ t, w.heap[g]? = some (.cells #[x] t (0, 0))
theorem Cell1.stay {w w' : World} {g : Nat} {x : Value} (h : Cell1 w g x) (hb : Below w.heap.size w w') : Cell1 w' g x := by
  obtain ⟨t, h⟩ := h
  exact ⟨t, by rw [hb.block g (Array.getElem?_eq_some_iff.1 h).1]; exact h⟩
theorem Cell1.cell0 {w : World} {g : Nat} {x : Value} (h : Cell1 w g x) : w.cell? ⟨g, 0, none⟩ = some x := by
  obtain ⟨t, h⟩ := h
  rw [cell_of_row w g 0 _ _ (0, 0) h]; rfl
theorem Cell1.free {w : World} {g : Nat} {x : Value} (h : Cell1 w g x) (k : Nat) : w.frozen? ⟨g, k, none⟩ = false := by
  obtain ⟨t, h⟩ := h
  simp [World.frozen?, h]
/-- A record's box was written. -/
structure Put (g : Nat) (w w' : World) : Prop where
  ext : Ext (· = g) w w'
  fresh : ∀ (base : Nat) (A : Option Addr) (c : Nat), Fresh w base A c → Fresh w' base A c
theorem Box2.write {w : World} {g : Nat} {b : Bool} {A : Option Addr} {l c : Nat} (h : Box2 w g (.bool b) (.slice A l c)) (x y : Value) :
    ∃ W, (w.setCell ⟨g, 0, none⟩ x).setCell ⟨g, 1, none⟩ y = W ∧ Hid (Box2 W g x y) ∧ Put g w W :=
  ⟨_, rfl, Lib.hid h.store, ⟨ext_store2 h.nums, fun _ _ _ hf => Fresh.set (Fresh.set hf g 0 x) g 1 y⟩⟩
theorem Box2.write0 {w : World} {g : Nat} {b : Bool} {A : Option Addr} {l c : Nat} (h : Box2 w g (.bool b) (.slice A l c)) (x : Value) :
    ∃ W, w.setCell ⟨g, 0, none⟩ x = W ∧ Hid (Box2 W g x (.slice A l c)) ∧ Put g w W := by
  refine ⟨_, rfl, Lib.hid ?_, ⟨?_, fun _ _ _ hf => Fresh.set hf g 0 x⟩⟩
  · unfold Box2 at h ⊢
    simp [World.setCell, Array.getElem?_modify, h]
  · refine ⟨rfl, rfl, rfl, by simp, fun i hi hn => ?_, fun i hi _ => by subst hi; exact h.nums⟩
    rw [Below.heap_setCell _ _ _ i (by simpa using hn)]
theorem Lim.put {w w' : World} {g : Nat} {A : Option Addr} {xs : List Nat} (h : Lim w w.heap.size A xs) (p : Put g w w') : Lim w' w'.heap.size A xs := (h.ext (Nat.le_refl _) p.ext).more p.ext.size
theorem IntV.put {w w' : World} {g : Nat} {v : Value} {z : Int} (h : IntV w v z) (p : Put g w w') : IntV w' v z := by
  obtain ⟨A, l, c, rfl, hl, hc, hlim⟩ := h
  exact ⟨A, l, c, rfl, hl, hc, hlim.put p⟩
theorem RawV.put {w w' : World} {g : Nat} {v : Value} {x : Raw} (h : RawV w v x) (p : Put g w w') : RawV w' v x := by
  obtain ⟨A, l, c, rfl, hl, hc, hlim⟩ := h
  exact ⟨A, l, c, rfl, hl, hc, hlim.put p⟩
theorem RawAt.put {w w' : World} {g base : Nat} {v : Value} {x : Raw} (h : RawAt w base v x) (p : Put g w w') : RawAt w' base v x := by
  obtain ⟨A, l, c, rfl, hl, hc, hlim, hf⟩ := h
  exact ⟨A, l, c, rfl, hl, hc, hlim.put p, p.fresh _ _ _ hf⟩
theorem NatAt.put {w w' : World} {g : Nat} {v : Value} {n : Nat} (h : NatAt w v n) (p : Put g w w') : NatAt w' v n := by
  obtain ⟨A, l, c, rfl, hl, hc, hlim⟩ := h
  exact ⟨A, l, c, rfl, hl, hc, hlim.put p⟩
theorem Fresh.put {w w' : World} {g base : Nat} {A : Option Addr} {c : Nat} (h : Fresh w base A c) (p : Put g w w') : Fresh w' base A c := p.fresh _ _ _ h
theorem Blocks.put {w w' : World} {g n : Nat} (h : Blocks w n) (p : Put g w w') : Blocks w' n := Nat.le_trans h p.ext.size
theorem Box2.put {w w' : World} {g h : Nat} {x y : Value} (hb : Box2 w h x y) (p : Put g w w') (hn : h ≠ g) : Box2 w' h x y := hb.ext p.ext hn
theorem Since.put {w0 w w' : World} {g : Nat} (h : Since w0 w) (p : Put g w w') (hg : w0.heap.size ≤ g) : Since w0 w' := by
  refine ⟨p.ext.os.trans h.os, p.ext.tape.trans h.tape, p.ext.output.trans h.output, Nat.le_trans h.size p.ext.size, fun i hi => ?_⟩
  rw [p.ext.block i (Nat.lt_of_lt_of_le hi h.size) (by omega)]
  exact h.block i hi
/-- New boxes, by name. -/
theorem boxH (w : World) (x y : Value) : ∃ W g, w.alloc (.cells #[x, y] 24) = W ∧ w.heap.size = g ∧ Hid (Box2 W g x y) ∧ Hid (w.heap.size = g) ∧ Hid (W.heap.size = g + 1) ∧ Below w.heap.size w W :=
  ⟨_, _, rfl, rfl, Lib.hid (heap_alloc_new w _), Lib.hid rfl, Lib.hid (by simp), (Below.refl _ _).alloc (Nat.le_refl _) _⟩
theorem boxH2 (w : World) (x y x' y' : Value) : ∃ W g r, (w.alloc (.cells #[x, y] 24)).alloc (.cells #[x', y'] 24) = W ∧ w.heap.size = g ∧ w.heap.size + 1 = r ∧ Hid (Box2 W g x y) ∧ Hid (Box2 W r x' y') ∧ Hid (w.heap.size = g ∧ g + 1 = r) ∧ Hid (W.heap.size = g + 2) ∧ Below w.heap.size w W := by
  obtain ⟨W, g, r, hW, hg, hr, hgr, b1, b2, hb, hs⟩ := box_two w x y x' y'
  exact ⟨W, g, r, hW, hg, hr, Lib.hid b1, Lib.hid b2, Lib.hid ⟨hg, hgr⟩, Lib.hid hs, by rw [hg]; exact hb⟩
theorem boxH3 (w : World) (x y x' y' x2 y2 : Value) : ∃ W g h r, ((w.alloc (.cells #[x, y] 24)).alloc (.cells #[x', y'] 24)).alloc (.cells #[x2, y2] 24) = W ∧ w.heap.size = g ∧ w.heap.size + 1 = h ∧ w.heap.size + 1 + 1 = r ∧ Hid (Box2 W g x y) ∧ Hid (Box2 W h x' y') ∧ Hid (Box2 W r x2 y2) ∧ Hid (w.heap.size = g ∧ g + 1 = h ∧ g + 2 = r) ∧ Hid (W.heap.size = g + 3) ∧ Below w.heap.size w W := by
  obtain ⟨W, g, h, r, hW, hg, hh, hr, ⟨h1, h2⟩, b1, b2, b3, hb, hs⟩ := box_three w x y x' y' x2 y2
  exact ⟨W, g, h, r, hW, hg, hh, hr, Lib.hid b1, Lib.hid b2, Lib.hid b3, Lib.hid ⟨hg, h1, h2⟩, Lib.hid hs, by rw [hg]; exact hb⟩
end Go.Proofs.YtjbagikfogejnaaGreatDoor
/- Boxes of many cells: a variable that is an array, or a record of records. -/
namespace Go.Proofs.YtjbagikfogejnaaGreatDoor
open Go.RowKit Go.Deep
/-- A value that is no limb. -/
def NoLimb (v : Value) : Prop := ∀ k : Int, v ≠ .int .u64 k
theorem noLimb_bool (b : Bool) : NoLimb (.bool b) := fun _ => by simp
theorem noLimb_slice (A : Option Addr) (l c : Nat) : NoLimb (.slice A l c) := fun _ => by simp
/-- In block g lie the cells of cs, none of which is a limb. -/
def BoxN (w : World) (g : Nat) (t : TypeId) (cs : List Value) : Prop := w.heap[g]? = some (.cells cs.toArray t (0, 0)) ∧ ∀ v ∈ cs, NoLimb v
theorem Put.trans {g : Nat} {w w' w'' : World} (p : Put g w w') (q : Put g w' w'') : Put g w w'' := by
  refine ⟨⟨q.ext.os.trans p.ext.os, q.ext.tape.trans p.ext.tape, q.ext.output.trans p.ext.output, Nat.le_trans p.ext.size q.ext.size, fun i hi hn => ?_, p.ext.num⟩, fun _ _ _ hf => q.fresh _ _ _ (p.fresh _ _ _ hf)⟩
  rw [q.ext.block i (Nat.lt_of_lt_of_le hi p.ext.size) hn, p.ext.block i hi hn]
section
variable {w w' : World} {g : Nat} {t : TypeId} {cs : List Value}
theorem BoxN.cell (h : BoxN w g t cs) (k : Nat) (hk : k < cs.length) : w.cell? ⟨g, k, none⟩ = some cs[k] := by
  rw [cell_of_row w g k _ _ (0, 0) h.1]
  simp [hk]
theorem BoxN.at (h : BoxN w g t cs) (k : Nat) {v : Value} (e : cs[k]? = some v) : w.cell? ⟨g, k, none⟩ = some v := by
  rw [cell_of_row w g k _ _ (0, 0) h.1]
  simpa using e
theorem BoxN.free (h : BoxN w g t cs) (k : Nat) : w.frozen? ⟨g, k, none⟩ = false := by have h := h.1; simp [World.frozen?, h]
theorem BoxN.lt (h : BoxN w g t cs) : g < w.heap.size := (Array.getElem?_eq_some_iff.1 h.1).1
theorem BoxN.noNum (h : BoxN w g t cs) : NoNum w g := by
  intro p hp n
  obtain ⟨pb, off, m⟩ := p
  obtain rfl : pb = g := hp
  have h1 := h.1
  unfold World.cell?
  simp only [h1]
  split
  · simp
  · by_cases hk : off < cs.length
    · simp only [List.getElem?_toArray, List.getElem?_eq_getElem hk]
      exact fun e => h.2 _ (List.getElem_mem hk) n (Option.some.inj e)
    · simp [List.getElem?_eq_none (Nat.le_of_not_lt hk)]
theorem BoxN.stay (h : BoxN w g t cs) (hb : Below w.heap.size w w') : BoxN w' g t cs := ⟨by rw [hb.block g h.lt]; exact h.1, h.2⟩
theorem BoxN.put {k : Nat} (h : BoxN w g t cs) (p : Put k w w') (hn : g ≠ k) : BoxN w' g t cs := ⟨by rw [p.ext.block g h.lt hn]; exact h.1, h.2⟩
/-- One cell is written. -/
theorem BoxN.set (h : BoxN w g t cs) (k : Nat) (x : Value) (hx : NoLimb x) : BoxN (w.setCell ⟨g, k, none⟩ x) g t (cs.set k x) ∧ Put g w (w.setCell ⟨g, k, none⟩ x) := by
  refine ⟨⟨?_, fun v hv => ?_⟩, ⟨⟨rfl, rfl, rfl, by simp, fun i hi hn => ?_, fun i hi _ => by subst hi; exact h.noNum⟩, fun _ _ _ hf => Fresh.set hf g k x⟩⟩
  · have h1 := h.1
    simp [World.setCell, Array.getElem?_modify, h1]
  · rcases List.mem_or_eq_of_mem_set hv with h1 | rfl
    · exact h.2 v h1
    · exact hx
  · rw [Below.heap_setCell _ _ _ i (by simpa using hn)]
/-- A record of two cells is written at k. -/
theorem BoxN.set2 (h : BoxN w g t cs) (k : Nat) (b : Bool) (A : Option Addr) (l c : Nat) :
    ∃ W, (w.setCell ⟨g, k, none⟩ (.bool b)).setCell ⟨g, k + 1, none⟩ (.slice A l c) = W ∧ Hid (BoxN W g t ((cs.set k (.bool b)).set (k + 1) (.slice A l c))) ∧ Put g w W := by
  obtain ⟨h1, p1⟩ := h.set k (.bool b) (noLimb_bool b)
  obtain ⟨h2, p2⟩ := h1.set (k + 1) (.slice A l c) (noLimb_slice A l c)
  exact ⟨_, rfl, Lib.hid h2, p1.trans p2⟩
/-- All cells are written, from cell k on. -/
def setFrom (w : World) (g : Nat) : Nat → List Value → World
  | _, [] => w
  | k, v :: vs => setFrom (w.setCell ⟨g, k, none⟩ v) g (k + 1) vs
def listFrom (cs : List Value) : Nat → List Value → List Value
  | _, [] => cs
  | k, v :: vs => listFrom (cs.set k v) (k + 1) vs
theorem Put.refl (h : BoxN w g t cs) : Put g w w := ⟨⟨rfl, rfl, rfl, Nat.le_refl _, fun _ _ _ => rfl, fun i hi _ => by subst hi; exact h.noNum⟩, fun _ _ _ hf => hf⟩
theorem BoxN.setAll : ∀ (vs : List Value) {w : World} {cs : List Value} (_ : BoxN w g t cs) (k : Nat), (∀ v ∈ vs, NoLimb v) → BoxN (setFrom w g k vs) g t (listFrom cs k vs) ∧ Put g w (setFrom w g k vs)
  | [], _, _, h, _, _ => ⟨h, Put.refl h⟩
  | v :: vs, _, _, h, k, hv => by
    obtain ⟨h1, p1⟩ := h.set k v (hv v (by simp))
    obtain ⟨h2, p2⟩ := BoxN.setAll vs h1 (k + 1) (fun u hu => hv u (by simp [hu]))
    exact ⟨h2, p1.trans p2⟩
theorem BoxN.fill (h : BoxN w g t cs) (vs : List Value) (hv : ∀ v ∈ vs, NoLimb v) (hl : listFrom cs 0 vs = vs) :
    ∃ W, setFrom w g 0 vs = W ∧ Hid (BoxN W g t vs) ∧ Put g w W := by
  obtain ⟨h1, p⟩ := BoxN.setAll vs h 0 hv
  rw [hl] at h1
  exact ⟨_, rfl, Lib.hid h1, p⟩
end
end Go.Proofs.YtjbagikfogejnaaGreatDoor
/- What the package's variables hold, which no function here writes: a fact of the world that stays. -/
namespace Go.Proofs.YtjbagikfogejnaaGreatDoor
open Go.RowKit Go.Deep
/-- The table of the lowest bits. -/
def tz64 : List Nat := [0, 1, 56, 2, 57, 49, 28, 3, 61, 58, 42, 50, 38, 29, 17, 4, 62, 47, 59, 36, 45, 43, 51, 22, 53, 39, 33, 30, 24, 18, 12, 5, 63, 55, 48, 27, 60, 41, 37, 16, 46, 35, 44, 21, 52, 32, 23, 11, 54, 26, 40, 15, 34, 20, 31, 10, 25, 14, 19, 9, 13, 8, 7, 6]
def Gl (w : World) : Prop := ∀ j, j < tz64.length → w.cell? ⟨0, j, none⟩ = some (.int .u8 (tz64.getD j 0))
theorem Gl.stay {w w' : World} (h : Gl w) (hb : Below w.heap.size w w') : Gl w' := by
  intro j hj
  have hc := h j hj
  have hlt : 0 < w.heap.size := by
    rcases Nat.lt_or_ge 0 w.heap.size with h | h
    · exact h
    · exfalso
      have : w.heap[0]? = none := Array.getElem?_eq_none h
      simp [World.cell?, this] at hc
  rw [cell_of_block (w := w) (hb.block _ hlt)]
  exact hc
/-- What a function may lean on as it is called. -/
def Ready (G : Nat → Prop) (w : World) : Prop := (∀ g, G g → g < w.heap.size) ∧ Gl w
end Go.Proofs.YtjbagikfogejnaaGreatDoor
/- One walk for all orders of a region in which, at times, two calls may come in either order. -/
namespace Go.Proofs.YtjbagikfogejnaaGreatDoor
open Go
section
variable {P : Program} {md : Region.Mode} {ops : Array Oper} {C : World → Prop} {Q : Exit → Act → World → Prop}
/-- A plan that may fork: where two may come, both are shown. -/
inductive Tree (α : Type) where
  | done
  | read (x : α) (rest : Tree α)
  | loud (x : α) (rest : Tree α)
  | both (x : α) (r1 : Tree α) (y : α) (r2 : Tree α)
def Tree.map {α β : Type} (f : α → β) : Tree α → Tree β
  | .done => .done
  | .read x r => .read (f x) (r.map f)
  | .loud x r => .loud (f x) (r.map f)
  | .both x r1 y r2 => .both (f x) (r1.map f) (f y) (r2.map f)
def Tree.size {α : Type} : Tree α → Nat
  | .done => 0
  | .read _ r => r.size + 1
  | .loud _ r => r.size + 1
  | .both _ r1 _ _ => r1.size + 1
/-- Each way is as long. -/
def Tree.even {α : Type} : Tree α → Bool
  | .done => true
  | .read _ r => r.even
  | .loud _ r => r.even
  | .both _ r1 _ r2 => r1.even && r2.even && r1.size == r2.size
def treeB (md : Region.Mode) (ops : Array Oper) (k : Nat) : Tree Nat → Array Bool → Bool
  | .done, listed => chainB md ops (ops.size - k) k listed
  | .read i rest, listed => decide (i < k) && ((ops[i]?).map plainOp).getD false && (Region.ready md ops listed).contains i && Region.free md ops listed i && treeB md ops k rest (listed.setIfInBounds i true)
  | .loud i rest, listed => decide (i < k) && Region.ready md ops listed == [i] && treeB md ops k rest (listed.setIfInBounds i true)
  | .both i r1 j r2, listed => decide (i < k) && decide (j < k) && Region.ready md ops listed == [i, j] && treeB md ops k r1 (listed.setIfInBounds i true) && treeB md ops k r2 (listed.setIfInBounds j true)
def wpTree (P : Program) (ops : Array Oper) (C : World → Prop) (Q : Exit → Act → World → Prop) (tail : List Oper) : Tree Oper → Act → World → Prop
  | .done, a, w => wpList P ops Q tail a w
  | .read o rest, a, w => wpQuiet P ops C (fun a' => wpTree P ops C Q tail rest a' w) [o] a
  | .loud o rest, a, w => if Region.wanted o (yielded ops a.tmps) then o.wp P a w (fun a' w' => C w' ∧ wpTree P ops C Q tail rest a' w') noWay else wpTree P ops C Q tail rest (a.put o.dst undef) w
  | .both o1 r1 o2 r2, a, w => (if Region.wanted o1 (yielded ops a.tmps) then o1.wp P a w (fun a' w' => C w' ∧ wpTree P ops C Q tail r1 a' w') noWay else wpTree P ops C Q tail r1 (a.put o1.dst undef) w) ∧
      (if Region.wanted o2 (yielded ops a.tmps) then o2.wp P a w (fun a' w' => C w' ∧ wpTree P ops C Q tail r2 a' w') noWay else wpTree P ops C Q tail r2 (a.put o2.dst undef) w)
def forksB (ops : Array Oper) (p : Tree Nat) (k : Nat) : Bool :=
  Region.noSelect ops && tailB .any ops k && decide (p.size + (ops.size - k) = ops.size) && decide (k ≤ ops.size) && p.even && treeB .any ops k p (Array.replicate ops.size false)
end
end Go.Proofs.YtjbagikfogejnaaGreatDoor
/- A region that draws its order, by an invariant: where several operations may come up at once. -/
namespace Go.Proofs.YtjbagikfogejnaaGreatDoor
open Go
section
variable {P : Program} {md : Region.Mode} {ops : Array Oper} {Q : Exit → Act → World → Prop}
def upd (L : Nat → Bool) (i : Nat) : Nat → Bool := fun j => if j = i then true else L j
theorem upd_self (L : Nat → Bool) (i : Nat) : upd L i i = true := by unfold upd; rw [if_pos rfl]
theorem upd_ne {L : Nat → Bool} {i j : Nat} (h : j ≠ i) : upd L i j = L j := by unfold upd; rw [if_neg h]
def unl (listed : Array Bool) : Nat → Nat
  | 0 => 0
  | k + 1 => unl listed k + (if listed.getD k false then 0 else 1)
theorem unl_zero {listed : Array Bool} : ∀ {k : Nat}, unl listed k = 0 → ∀ i, i < k → listed.getD i false = true
  | 0, _, _, hi => by omega
  | k + 1, h, i, hi => by
    simp only [unl] at h
    by_cases e : i = k
    · subst e
      cases hl : listed.getD i false with
      | true => rfl
      | false => rw [hl] at h; simp at h
    · exact unl_zero (k := k) (by omega) i (by omega)
theorem unl_pos {listed : Array Bool} : ∀ {k : Nat}, unl listed k ≠ 0 → ∃ i, i < k ∧ listed.getD i false = false ∧ ∀ j, j < i → listed.getD j false = true
  | 0, h => absurd rfl h
  | k + 1, h => by
    by_cases h1 : unl listed k = 0
    · refine ⟨k, by omega, ?_, unl_zero h1⟩
      cases hl : listed.getD k false with
      | false => rfl
      | true => simp only [unl, h1, hl] at h; simp at h
    · obtain ⟨i, hi, h2, h3⟩ := unl_pos h1
      exact ⟨i, by omega, h2, h3⟩
theorem getD_set_bool (listed : Array Bool) (i j : Nat) (hi : i < listed.size) : (listed.setIfInBounds i true).getD j false = if j = i then true else listed.getD j false := by
  simp only [Array.getD_eq_getD_getElem?, Array.getElem?_setIfInBounds]
  by_cases e : i = j
  · subst e; simp [hi]
  · rw [if_neg e, if_neg (Ne.symm e)]
theorem unl_far {listed : Array Bool} {i : Nat} (hs : i < listed.size) : ∀ {k : Nat}, k ≤ i → unl (listed.setIfInBounds i true) k = unl listed k
  | 0, _ => rfl
  | k + 1, h => by
    simp only [unl]
    rw [unl_far hs (k := k) (by omega), getD_set_bool listed i k hs, if_neg (show ¬ k = i by omega)]
theorem unl_set {listed : Array Bool} {i : Nat} (hs : i < listed.size) (hl : listed.getD i false = false) : ∀ {k : Nat}, i < k → unl (listed.setIfInBounds i true) k + 1 = unl listed k
  | 0, h => by omega
  | k + 1, h => by
    simp only [unl]
    by_cases e : i = k
    · subst e
      rw [unl_far hs (Nat.le_refl _), getD_set_bool listed i i hs, if_pos rfl, hl]
      simp
    · rw [getD_set_bool listed i k hs, if_neg (Ne.symm e)]
      have := unl_set hs hl (k := k) (by omega)
      omega
/-- Operation i waits for earlier ones alone. -/
def earlyB (md : Region.Mode) (ops : Array Oper) (k : Nat) : Bool :=
  (List.range k).all fun i => (waits md ops i).all fun j => decide (j < i)
def lead (n k : Nat) : Array Bool := (List.replicate k true ++ List.replicate (n - k) false).toArray
theorem eq_lead {listed : Array Bool} {n k : Nat} (hn : listed.size = n) (hk : k ≤ n) (h1 : ∀ i, i < k → listed.getD i false = true) (h2 : ∀ i, k ≤ i → listed.getD i false = false) : listed = lead n k := by
  apply Array.ext
  · simp [lead, hn]; omega
  · intro i hi hi2
    have e : listed.getD i false = listed[i] := by simp [Array.getD, hi]
    rw [← e]
    simp only [lead, List.getElem_toArray, List.getElem_append, List.length_replicate]
    by_cases h : i < k
    · rw [h1 i h]; simp [h]
    · rw [h2 i (by omega)]; simp [h]
theorem wpAny_inv {J : (Nat → Bool) → Act → World → Prop} {k : Nat} (tail : List Oper) (htl : ∀ j, tail[j]? = ops[k + j]?) (hlen : tail.length = ops.size - k) (hk : k ≤ ops.size)
    (ht : tailB md ops k = true) (he : earlyB md ops k = true) (hc : chainB md ops (ops.size - k) k (lead ops.size k) = true)
    (hstep : ∀ i o L a w, i < k → ops[i]? = some o → L i = false → (∀ j, j ∈ waits md ops i → L j = true) → J L a w → lOp P ops i (fun a' w' => J (upd L i) a' w') a w)
    (htail : ∀ L a w, (∀ i, i < k → L i = true) → J L a w → wpList P ops Q tail a w) :
    ∀ (m : Nat) (listed : Array Bool) (a : Act) (w : World), unl listed k = m → closed md ops listed → listed.size = ops.size → (∀ i, k ≤ i → listed.getD i false = false) → J (fun j => listed.getD j false) a w → wpAny P md ops Q (m + (ops.size - k)) listed a w := by
  intro m
  induction m with
  | zero =>
    intro listed a w hm hcl hsz hhi hJ
    have hall := unl_zero hm
    have e := eq_lead hsz hk hall hhi
    subst e
    have hL := htail _ a w hall hJ
    rw [Nat.zero_add, ← hlen]
    refine wpAny_of_wpAnyL (C := fun _ => True) (k := k) _ _ _ _ (wpAnyL_tail tail k _ a w (Nat.le_refl _) htl ?_ hL)
    rw [hlen]; exact hc
  | succ m ih =>
    intro listed a w hm hcl hsz hhi hJ
    rw [show m + 1 + (ops.size - k) = (m + (ops.size - k)) + 1 by omega]
    obtain ⟨i0, hi0, hu0, hb0⟩ := unl_pos (k := k) (listed := listed) (by omega)
    have hr0 : i0 ∈ Region.ready md ops listed := by
      have hlt : i0 < ops.size := by omega
      refine mem_ready.2 ⟨?_, ops[i0], Array.getElem?_eq_getElem hlt, fun e hemem hbind => ?_⟩
      · simp only [Array.getD_eq_getD_getElem?, Array.getElem?_eq_getElem (show i0 < listed.size by omega)] at hu0
        simp only [Option.getD_some] at hu0
        first
        | simpa [Array.getElem?_eq_getElem (show i0 < listed.size by omega)] using hu0
        | simp [Array.getD_eq_getD_getElem?, Array.getElem?_eq_getElem (show i0 < listed.size by omega), hu0]
      · refine hb0 _ ?_
        unfold earlyB at he
        rw [List.all_eq_true] at he
        have h1 := he i0 (by rw [List.mem_range]; exact hi0)
        rw [List.all_eq_true] at h1
        have h2 := h1 e.on (by
          unfold waits
          rw [Array.getElem?_eq_getElem hlt]
          exact List.mem_map.2 ⟨e, List.mem_filter.2 ⟨by simpa using hemem, hbind⟩, rfl⟩)
        exact of_decide_eq_true h2
    refine ⟨fun h => (by rw [h] at hr0; cases hr0), fun i hi => ?_⟩
    have hik : i < k := by
      rcases Nat.lt_or_ge i k with h | h
      · exact h
      · have := tail_waits ht hcl hi (by omega) hi0
        rw [this] at hu0; cases hu0
    obtain ⟨hun, o, ho, hall⟩ := mem_ready.1 hi
    have hsi : i < listed.size := by rw [hsz]; exact (Array.getElem?_eq_some_iff.1 ho).1
    have hui : listed.getD i false = false := by
      cases hx : listed.getD i false with
      | false => rfl
      | true => exfalso; simp_all [Array.getD_eq_getD_getElem?]
    refine wpOp_of_lOp (lOp_mono (fun a' w' h => ?_) (hstep i o _ a w hik ho hui (fun j hj => ?_) hJ))
    · refine ih _ a' w' (by have := unl_set hsi hui hik; omega) (closed_set hcl hi) (by simpa using hsz) (fun j hj => ?_) ?_
      · rw [getD_set_bool _ _ _ hsi, if_neg (by omega)]; exact hhi j hj
      · have e : (fun j => (listed.setIfInBounds i true).getD j false) = upd (fun j => listed.getD j false) i := by
          funext j; rw [getD_set_bool _ _ _ hsi]; rfl
        rw [e]; exact h
    · unfold waits at hj
      rw [ho] at hj
      obtain ⟨e, hemem, rfl⟩ := List.mem_map.1 hj
      obtain ⟨h1, h2⟩ := List.mem_filter.1 hemem
      exact hall e (by simpa using h1) h2
def invB (ops : Array Oper) (k : Nat) : Bool :=
  tailB .any ops k && earlyB .any ops k && chainB .any ops (ops.size - k) k (lead ops.size k) && decide (k ≤ ops.size)
end
end Go.Proofs.YtjbagikfogejnaaGreatDoor
/- An abstract machine: what code does to values, the memory hidden. The words. -/
namespace Go.Proofs.YtjbagikfogejnaaGreatDoor
open Go.RowKit Go.Deep
/-- Only blocks of G were written, which hold no limbs. -/
structure Mv (G : Nat → Prop) (w w' : World) : Prop where
  ext : ∃ H : Nat → Prop, (∀ g, H g → G g) ∧ Ext H w w'
  fresh : ∀ (base : Nat) (A : Option Addr) (c : Nat), Fresh w base A c → Fresh w' base A c
theorem Mv.size {G : Nat → Prop} {w w' : World} (m : Mv G w w') : w.heap.size ≤ w'.heap.size := by
  obtain ⟨H, _, e⟩ := m.ext
  exact e.size
theorem Mv.of_below {G : Nat → Prop} {w w' : World} (h : Below w.heap.size w w') : Mv G w w' := ⟨⟨_, fun _ h => h.elim, Ext.of_below h⟩, fun _ _ _ hf => hf.stay h⟩
theorem Mv.of_put {G : Nat → Prop} {g : Nat} {w w' : World} (p : Put g w w') (hg : G g) : Mv G w w' := ⟨⟨_, fun i h => by subst h; exact hg, p.ext⟩, p.fresh⟩
theorem Mv.refl (G : Nat → Prop) (w : World) : Mv G w w := Mv.of_below (Below.refl _ _)
/-- What a cell may hold: it stays when only our boxes are written. -/
structure Pred where
  is : (Nat → Prop) → World → Value → Prop
  cell : ∀ {G w v}, is G w v → NoLimb v ∧ v.oneCell' = true
  stay : ∀ {G w w' v}, is G w v → Mv G w w' → is G w' v
  grow : ∀ {G G' w v}, is G w v → (∀ g, G' g → G g ∨ w.heap.size ≤ g) → is G' w v
/-- A slice of limbs. -/
def magP (L : List Nat) : Pred where
  is := fun _ w v => ∃ A l c, v = .slice A l c ∧ l = L.length ∧ l ≤ c ∧ Lim w w.heap.size A L
  cell := by
    rintro G w v ⟨A, l, c, rfl, _, _, _⟩
    exact ⟨noLimb_slice _ _ _, rfl⟩
  stay := by
    rintro G w w' v ⟨A, l, c, rfl, hl, hc, hlim⟩ m
    obtain ⟨H, _, e⟩ := m.ext
    exact ⟨A, l, c, rfl, hl, hc, (hlim.ext (Nat.le_refl _) e).more e.size⟩
  grow := by
    rintro G G' w v h _
    exact h
/-- A cell, as it is known. -/
inductive AC where
  | any
  | b (x : Bool)
  | i (k : IntKind) (n : Int)
  | ptr (j off : Nat)
  | sl (j off len cap : Nat)
  | st (p : Pred)
  | und
/-- A value. -/
inductive AV where
  | one (c : AC)
  | agg (cs : List AC)
/-- What a slot holds. -/
inductive AR where
  | val (x : AV)
  | tup (l : List AV)
section
variable (G : Nat → Prop) (β : Nat → Nat) (w : World)
def AC.ok : AC → Value → Prop
  | .any, _ => True
  | .b x, v => v = .bool x
  | .i k n, v => v = .int k n
  | .ptr j off, v => v = .pointer (some ⟨β j, off, none⟩)
  | .sl j off len cap, v => v = .slice (some ⟨β j, off, none⟩) len cap
  | .st p, v => p.is G w v
  | .und, v => v = undef
def oks : List AC → List Value → Prop
  | [], [] => True
  | c :: cs, v :: vs => c.ok G β w v ∧ oks cs vs
  | [], _ :: _ => False
  | _ :: _, [] => False
def AV.ok : AV → Value → Prop
  | .one c, v => c.ok G β w v
  | .agg cs, v => ∃ vs, v = .agg vs.toArray ∧ oks G β w cs vs
def oksV : List AV → List Value → Prop
  | [], [] => True
  | c :: cs, v :: vs => c.ok G β w v ∧ oksV cs vs
  | [], _ :: _ => False
  | _ :: _, [] => False
def AR.ok : AR → Value → Prop
  | .val x, v => x.ok G β w v
  | .tup l, v => ∃ vs, v = .tuple vs.toArray ∧ oksV G β w l vs
def oksR : List AR → List Value → Prop
  | [], [] => True
  | c :: cs, v :: vs => c.ok G β w v ∧ oksR cs vs
  | [], _ :: _ => False
  | _ :: _, [] => False
end
/-- Pointers lead into U alone. -/
def AC.low (U : Nat → Prop) : AC → Prop
  | .ptr j _ => U j
  | .sl j _ _ _ => U j
  | _ => True
def AV.low (U : Nat → Prop) : AV → Prop
  | .one c => c.low U
  | .agg cs => ∀ c ∈ cs, c.low U
def AR.low (U : Nat → Prop) : AR → Prop
  | .val x => x.low U
  | .tup l => ∀ x ∈ l, x.low U
def AC.nop : AC → Bool
  | .ptr _ _ => false
  | .sl _ _ _ _ => false
  | _ => true
def AV.nop : AV → Bool
  | .one c => c.nop
  | .agg cs => cs.all AC.nop
def AR.nop : AR → Bool
  | .val x => x.nop
  | .tup l => l.all AV.nop
theorem AC.nop_low {c : AC} (h : c.nop = true) (U : Nat → Prop) : c.low U := by cases c <;> first | trivial | cases h
theorem AV.nop_low {c : AV} (h : c.nop = true) (U : Nat → Prop) : c.low U := by
  cases c with
  | one c => exact AC.nop_low h U
  | agg cs => exact fun c hc => AC.nop_low (List.all_eq_true.1 h c hc) U
theorem AR.nop_low {c : AR} (h : c.nop = true) (U : Nat → Prop) : c.low U := by
  cases c with
  | val c => exact AV.nop_low h U
  | tup cs => exact fun c hc => AV.nop_low (List.all_eq_true.1 h c hc) U
section
variable {U U' : Nat → Prop}
theorem AC.low_mono (h : ∀ j, U j → U' j) {c : AC} (hc : c.low U) : c.low U' := by cases c <;> first | trivial | exact h _ hc
theorem AV.low_mono (h : ∀ j, U j → U' j) {c : AV} (hc : c.low U) : c.low U' := by
  cases c with
  | one c => exact AC.low_mono h hc
  | agg cs => exact fun c hx => AC.low_mono h (hc c hx)
theorem AR.low_mono (h : ∀ j, U j → U' j) {c : AR} (hc : c.low U) : c.low U' := by
  cases c with
  | val c => exact AV.low_mono h hc
  | tup cs => exact fun c hx => AV.low_mono h (hc c hx)
end
/-! ### what is known stays -/
section
variable {G G' : Nat → Prop} {β β' : Nat → Nat} {w w' : World} {U : Nat → Prop}
theorem AC.ok_step (hU : ∀ j, U j → β' j = β j) (hG : ∀ g, G' g → G g ∨ w.heap.size ≤ g) (hm : Mv G' w w') {c : AC} {v : Value} (hl : c.low U) (h : c.ok G β w v) : c.ok G' β' w' v := by
  cases c with
  | any => trivial
  | b x => exact h
  | i k n => exact h
  | ptr j off => simp only [AC.ok] at h ⊢; rw [hU j hl]; exact h
  | sl j off len cap => simp only [AC.ok] at h ⊢; rw [hU j hl]; exact h
  | st p => exact p.stay (p.grow h hG) hm
  | und => exact h
theorem oks_step (hU : ∀ j, U j → β' j = β j) (hG : ∀ g, G' g → G g ∨ w.heap.size ≤ g) (hm : Mv G' w w') : ∀ {cs : List AC} {vs : List Value}, (∀ c ∈ cs, c.low U) → oks G β w cs vs → oks G' β' w' cs vs
  | [], [], _, _ => trivial
  | c :: cs, v :: vs, hl, h => ⟨AC.ok_step hU hG hm (hl c (by simp)) h.1, oks_step hU hG hm (fun c hc => hl c (by simp [hc])) h.2⟩
  | [], _ :: _, _, h => h.elim
  | _ :: _, [], _, h => h.elim
theorem AV.ok_step (hU : ∀ j, U j → β' j = β j) (hG : ∀ g, G' g → G g ∨ w.heap.size ≤ g) (hm : Mv G' w w') {c : AV} {v : Value} (hl : c.low U) (h : c.ok G β w v) : c.ok G' β' w' v := by
  cases c with
  | one c => exact AC.ok_step hU hG hm hl h
  | agg cs => obtain ⟨vs, e, h⟩ := h; exact ⟨vs, e, oks_step hU hG hm hl h⟩
theorem oksV_step (hU : ∀ j, U j → β' j = β j) (hG : ∀ g, G' g → G g ∨ w.heap.size ≤ g) (hm : Mv G' w w') : ∀ {cs : List AV} {vs : List Value}, (∀ c ∈ cs, c.low U) → oksV G β w cs vs → oksV G' β' w' cs vs
  | [], [], _, _ => trivial
  | c :: cs, v :: vs, hl, h => ⟨AV.ok_step hU hG hm (hl c (by simp)) h.1, oksV_step hU hG hm (fun c hc => hl c (by simp [hc])) h.2⟩
  | [], _ :: _, _, h => h.elim
  | _ :: _, [], _, h => h.elim
theorem AR.ok_step (hU : ∀ j, U j → β' j = β j) (hG : ∀ g, G' g → G g ∨ w.heap.size ≤ g) (hm : Mv G' w w') {c : AR} {v : Value} (hl : c.low U) (h : c.ok G β w v) : c.ok G' β' w' v := by
  cases c with
  | val c => exact AV.ok_step hU hG hm hl h
  | tup cs => obtain ⟨vs, e, h⟩ := h; exact ⟨vs, e, oksV_step hU hG hm hl h⟩
theorem oks_len : ∀ {cs : List AC} {vs : List Value}, oks G β w cs vs → cs.length = vs.length
  | [], [], _ => rfl
  | _ :: _, _ :: _, h => by simp [oks_len h.2]
  | [], _ :: _, h => h.elim
  | _ :: _, [], h => h.elim
theorem oksR_len : ∀ {cs : List AR} {vs : List Value}, oksR G β w cs vs → cs.length = vs.length
  | [], [], _ => rfl
  | _ :: _, _ :: _, h => by simp [oksR_len h.2]
  | [], _ :: _, h => h.elim
  | _ :: _, [], h => h.elim
theorem oks_get : ∀ {cs : List AC} {vs : List Value}, oks G β w cs vs → ∀ (k : Nat) (c : AC), cs[k]? = some c → ∃ v, vs[k]? = some v ∧ c.ok G β w v
  | [], [], _, k, c, hc => by simp at hc
  | _ :: _, v :: _, h, 0, c, hc => by simp at hc; subst hc; exact ⟨v, by simp, h.1⟩
  | _ :: _, _ :: _, h, k + 1, c, hc => by
    obtain ⟨v, h1, h2⟩ := oks_get h.2 k c (by simpa using hc)
    exact ⟨v, by simpa using h1, h2⟩
  | [], _ :: _, h, _, _, _ => h.elim
  | _ :: _, [], h, _, _, _ => h.elim
theorem oksV_get : ∀ {cs : List AV} {vs : List Value}, oksV G β w cs vs → ∀ (k : Nat) (c : AV), cs[k]? = some c → ∃ v, vs[k]? = some v ∧ c.ok G β w v
  | [], [], _, k, c, hc => by simp at hc
  | _ :: _, v :: _, h, 0, c, hc => by simp at hc; subst hc; exact ⟨v, by simp, h.1⟩
  | _ :: _, _ :: _, h, k + 1, c, hc => by
    obtain ⟨v, h1, h2⟩ := oksV_get h.2 k c (by simpa using hc)
    exact ⟨v, by simpa using h1, h2⟩
  | [], _ :: _, h, _, _, _ => h.elim
  | _ :: _, [], h, _, _, _ => h.elim
theorem oks_of_get {cs : List AC} {vs : List Value} (hl : cs.length = vs.length) (h : ∀ (k : Nat) (c : AC) (v : Value), cs[k]? = some c → vs[k]? = some v → c.ok G β w v) : oks G β w cs vs := by
  induction cs generalizing vs with
  | nil => cases vs with
    | nil => trivial
    | cons v vs => simp at hl
  | cons c cs ih => cases vs with
    | nil => simp at hl
    | cons v vs => exact ⟨h 0 c v (by simp) (by simp), ih (by simpa using hl) (fun k c v hc hv => h (k + 1) c v (by simpa using hc) (by simpa using hv))⟩
theorem oks_app : ∀ {cs : List AC} {vs : List Value} {ds : List AC} {us : List Value}, oks G β w cs vs → oks G β w ds us → oks G β w (cs ++ ds) (vs ++ us)
  | [], [], _, _, _, h => h
  | _ :: _, _ :: _, _, _, h, k => ⟨h.1, oks_app h.2 k⟩
  | [], _ :: _, _, _, h, _ => h.elim
  | _ :: _, [], _, _, h, _ => h.elim
end
/-! ### parts of lists -/
/-- n cells from off on. -/
def rdO : List AC → Nat → Nat → Option (List AC)
  | _, 0, 0 => some []
  | c :: cs, 0, n + 1 => match rdO cs 0 n with
    | some r => some (c :: r)
    | none => none
  | [], 0, _ + 1 => none
  | _ :: cs, k + 1, n => rdO cs k n
  | [], _ + 1, _ => none
/-- vs is laid over cs from off on. -/
def layO {α : Type} : List α → Nat → List α → Option (List α)
  | cs, 0, [] => some cs
  | _ :: cs, 0, v :: vs => match layO cs 0 vs with
    | some r => some (v :: r)
    | none => none
  | [], 0, _ :: _ => none
  | c :: cs, k + 1, vs => match layO cs k vs with
    | some r => some (c :: r)
    | none => none
  | [], _ + 1, _ => none
theorem rdO_get : ∀ {cs : List AC} {off n : Nat} {r : List AC}, rdO cs off n = some r → r.length = n ∧ off + n ≤ cs.length ∧ ∀ k, k < n → r[k]? = cs[off + k]?
  | cs, 0, 0, r, h => by simp [rdO] at h; subst h; simp
  | c :: cs, 0, n + 1, r, h => by
    simp only [rdO] at h
    cases hr : rdO cs 0 n with
    | none => simp [hr] at h
    | some r' =>
      simp [hr] at h
      subst h
      obtain ⟨h1, h2, h3⟩ := rdO_get hr
      refine ⟨by simp [h1], by simp at h2 ⊢; omega, fun k hk => ?_⟩
      cases k with
      | zero => simp
      | succ k => have := h3 k (by omega); simpa using this
  | [], 0, _ + 1, r, h => by simp [rdO] at h
  | c :: cs, k + 1, n, r, h => by
    simp only [rdO] at h
    obtain ⟨h1, h2, h3⟩ := rdO_get h
    refine ⟨h1, by simp; omega, fun j hj => ?_⟩
    rw [h3 j hj, show k + 1 + j = (k + j) + 1 by omega]
    simp
  | [], _ + 1, _, r, h => by simp [rdO] at h
section
variable {α : Type}
theorem layO_get : ∀ {cs : List α} {off : Nat} {vs r : List α}, layO cs off vs = some r → r.length = cs.length ∧ off + vs.length ≤ cs.length ∧ ∀ k, r[k]? = if off ≤ k ∧ k < off + vs.length then vs[k - off]? else cs[k]?
  | cs, 0, [], r, h => by simp [layO] at h; subst h; simp
  | c :: cs, 0, v :: vs, r, h => by
    simp only [layO] at h
    cases hr : layO cs 0 vs with
    | none => simp [hr] at h
    | some r' =>
      simp [hr] at h
      subst h
      obtain ⟨h1, h2, h3⟩ := layO_get hr
      refine ⟨by simp [h1], by simp at h2 ⊢; omega, fun k => ?_⟩
      cases k with
      | zero => simp
      | succ k => have := h3 k; simpa using this
  | [], 0, _ :: _, r, h => by simp [layO] at h
  | c :: cs, k + 1, vs, r, h => by
    simp only [layO] at h
    cases hr : layO cs k vs with
    | none => simp [hr] at h
    | some r' =>
      simp [hr] at h
      subst h
      obtain ⟨h1, h2, h3⟩ := layO_get hr
      refine ⟨by simp [h1], by simp; omega, fun j => ?_⟩
      cases j with
      | zero => simp
      | succ j =>
        have := h3 j
        simp only [List.getElem?_cons_succ, this]
        by_cases hj : k ≤ j ∧ j < k + vs.length
        · rw [if_pos hj, if_pos (by omega), show j + 1 - (k + 1) = j - k by omega]
        · rw [if_neg hj, if_neg (by omega)]
  | [], _ + 1, _, r, h => by simp [layO] at h
theorem layO_some : ∀ {cs : List α} {off : Nat} {vs : List α}, off + vs.length ≤ cs.length → ∃ r, layO cs off vs = some r
  | cs, 0, [], _ => ⟨cs, by simp [layO]⟩
  | c :: cs, 0, v :: vs, h => by
    obtain ⟨r, hr⟩ := layO_some (cs := cs) (off := 0) (vs := vs) (by simp at h ⊢; omega)
    exact ⟨v :: r, by simp [layO, hr]⟩
  | [], 0, _ :: _, h => by simp at h
  | c :: cs, k + 1, vs, h => by
    obtain ⟨r, hr⟩ := layO_some (cs := cs) (off := k) (vs := vs) (by simp at h ⊢; omega)
    exact ⟨c :: r, by simp [layO, hr]⟩
  | [], _ + 1, _, h => by simp at h
end
theorem oks_lay {G : Nat → Prop} {β : Nat → Nat} {w : World} {cs xs r : List AC} {vs ys : List Value} {off : Nat} (h : oks G β w cs vs) (k : oks G β w xs ys) (hr : layO cs off xs = some r) :
    ∃ us, layO vs off ys = some us ∧ oks G β w r us := by
  obtain ⟨h1, h2, h3⟩ := layO_get hr
  have e1 := oks_len h
  have e2 := oks_len k
  obtain ⟨us, hus⟩ := layO_some (cs := vs) (off := off) (vs := ys) (by omega)
  obtain ⟨g1, g2, g3⟩ := layO_get hus
  refine ⟨us, hus, oks_of_get (by omega) fun j c v hc hv => ?_⟩
  rw [h3] at hc
  rw [g3, ← e2] at hv
  by_cases hj : off ≤ j ∧ j < off + xs.length
  · rw [if_pos hj] at hc hv
    obtain ⟨u, hu, hok⟩ := oks_get k _ _ hc
    rw [hu] at hv
    cases hv
    exact hok
  · rw [if_neg hj] at hc hv
    obtain ⟨u, hu, hok⟩ := oks_get h _ _ hc
    rw [hu] at hv
    cases hv
    exact hok
/-! ### the state -/
structure FSt where
  tm : Nat → Option AR
  bx : Nat → Option (TypeId × List AC)
  us : Nat → Prop
inductive Eff where
  | no
  | rd (j : Nat)
  | al (id : Nat) (t : TypeId) (cs : List AC)
  | wr (j off : Nat) (vs : List AC)
def layD (cs : List AC) (off : Nat) (vs : List AC) : List AC := (layO cs off vs).getD cs
def FSt.next (F : FSt) (d : Option Nat) (v : AR) (e : Eff) : FSt where
  tm := fun t => if d = some t then some v else F.tm t
  bx := fun k => match e with
    | .no => F.bx k
    | .rd _ => F.bx k
    | .al id t cs => if k = id then some (t, cs) else F.bx k
    | .wr j off vs => if k = j then (F.bx k).map (fun p => (p.1, layD p.2 off vs)) else F.bx k
  us := fun k => match e with
    | .al id _ _ => k = id ∨ F.us k
    | _ => F.us k
/-- Our boxes, and what else we may not read as a slice's room. -/
def Gs (G0 : Nat → Prop) (bx : Nat → Option (TypeId × List AC)) (β : Nat → Nat) : Nat → Prop := fun g => G0 g ∨ ∃ j, (bx j).isSome = true ∧ β j = g
structure OkB (n : Nat) (G0 : Nat → Prop) (w0 : World) (F : FSt) (β : Nat → Nat) (a : Act) (w : World) : Prop where
  size : a.tmps.size = n
  defers : a.defers = []
  tms : ∀ t r, F.tm t = some r → r.low F.us ∧ r.ok (Gs G0 F.bx β) β w (a.tmps.getD t undef)
  bxs : ∀ j t cs, F.bx j = some (t, cs) → (∀ c ∈ cs, c.low F.us) ∧ ∃ vs, BoxN w (β j) t vs ∧ (∀ v ∈ vs, v.oneCell' = true) ∧ oks (Gs G0 F.bx β) β w cs vs
  inj : ∀ j j', (F.bx j).isSome = true → (F.bx j').isSome = true → β j = β j' → j = j'
  new : ∀ j, (F.bx j).isSome = true → w0.heap.size ≤ β j ∧ F.us j
  since : Since w0 w
  low : Ready G0 w0
def constAC : Value → AC
  | .bool x => .b x
  | .int k n => .i k n
  | .slice none 0 0 => .st (magP [])
  | _ => .any
def constAR : Value → Option AR
  | .tuple _ => none
  | .agg cs => some (.val (.agg (cs.toList.map constAC)))
  | v => some (.val (.one (constAC v)))
def FSt.ev (F : FSt) : Operand → Option AR
  | .tmp t => F.tm t
  | .const v => constAR v
  | _ => none
theorem magP_nil (G : Nat → Prop) (w : World) : (magP []).is G w (.slice none 0 0) := ⟨none, 0, 0, rfl, rfl, Nat.le_refl _, Lim.nil _ _ _⟩
theorem constAC_ok (G : Nat → Prop) (β : Nat → Nat) (w : World) (v : Value) : (constAC v).ok G β w v := by
  unfold constAC
  split
  · rfl
  · rfl
  · exact magP_nil G w
  · trivial
theorem constAC_low (U : Nat → Prop) (v : Value) : (constAC v).low U := by
  unfold constAC
  split <;> trivial
theorem oks_const (G : Nat → Prop) (β : Nat → Nat) (w : World) : ∀ cs : List Value, oks G β w (cs.map constAC) cs
  | [] => trivial
  | c :: cs => ⟨constAC_ok G β w c, oks_const G β w cs⟩
theorem constAR_ok {G : Nat → Prop} {β : Nat → Nat} {w : World} {U : Nat → Prop} {v : Value} {r : AR} (h : constAR v = some r) : r.low U ∧ r.ok G β w v := by
  unfold constAR at h
  split at h
  · cases h
  · cases h
    refine ⟨fun c hc => ?_, ⟨_, by simp, oks_const G β w _⟩⟩
    obtain ⟨v, _, rfl⟩ := List.mem_map.1 hc
    exact constAC_low U v
  · cases h
    exact ⟨constAC_low U v, constAC_ok G β w v⟩
section
variable {n : Nat} {G0 : Nat → Prop} {w0 : World} {F : FSt} {β : Nat → Nat} {a : Act} {w : World}
theorem OkB.ev (h : OkB n G0 w0 F β a w) {x : Operand} {r : AR} (hx : F.ev x = some r) : r.low F.us ∧ r.ok (Gs G0 F.bx β) β w (a.eval x) := by
  cases x with
  | tmp t => exact h.tms _ _ hx
  | const v => exact constAR_ok hx
  | global g => cases hx
  | func f => cases hx
theorem put_get {a : Act} {d : Option Nat} {v : Value} {t : Nat} (hd : ∀ t, d = some t → t < a.tmps.size) : (a.put d v).tmps.getD t undef = if d = some t then v else a.tmps.getD t undef := by
  cases d with
  | none => simp [Act.put]
  | some k =>
    have hk := hd k rfl
    simp only [Act.put, Array.getD_eq_getD_getElem?, Array.getElem?_setIfInBounds]
    by_cases e : k = t
    · subst e; simp [hk]
    · simp [e]
theorem put_size (a : Act) (d : Option Nat) (v : Value) : (a.put d v).tmps.size = a.tmps.size := by cases d <;> simp [Act.put]
theorem put_defers (a : Act) (d : Option Nat) (v : Value) : (a.put d v).defers = a.defers := by cases d <;> rfl
/-- One step: what is new is told; all else stays. -/
theorem OkB.step (h : OkB n G0 w0 F β a w) {d : Option Nat} {v : AR} {e : Eff} {β' : Nat → Nat} {w' : World} {val : Value} (hd : ∀ t, d = some t → t < n)
    (hU : ∀ j, F.us j → β' j = β j) (hus : ∀ j, F.us j → (F.next d v e).us j)
    (hG : ∀ g, Gs G0 (F.next d v e).bx β' g → Gs G0 F.bx β g ∨ w.heap.size ≤ g)
    (hm : Mv (Gs G0 (F.next d v e).bx β') w w')
    (hv : v.ok (Gs G0 (F.next d v e).bx β') β' w' val) (hl : v.low (F.next d v e).us)
    (hb : ∀ j t cs, (F.next d v e).bx j = some (t, cs) → (∀ c ∈ cs, c.low (F.next d v e).us) ∧ ∃ vs, BoxN w' (β' j) t vs ∧ (∀ v ∈ vs, v.oneCell' = true) ∧ oks (Gs G0 (F.next d v e).bx β') β' w' cs vs)
    (hi : ∀ j j', ((F.next d v e).bx j).isSome = true → ((F.next d v e).bx j').isSome = true → β' j = β' j' → j = j')
    (hn : ∀ j, ((F.next d v e).bx j).isSome = true → w0.heap.size ≤ β' j ∧ (F.next d v e).us j)
    (hs : Since w0 w') : OkB n G0 w0 (F.next d v e) β' (a.put d val) w' := by
  refine ⟨by rw [put_size]; exact h.size, by rw [put_defers]; exact h.defers, fun t r ht => ?_, hb, hi, hn, hs, h.low⟩
  rw [put_get (by rw [h.size]; exact hd)]
  simp only [FSt.next] at ht
  by_cases e1 : d = some t
  · rw [if_pos e1] at ht ⊢
    cases ht
    exact ⟨hl, hv⟩
  · rw [if_neg e1] at ht ⊢
    obtain ⟨h1, h2⟩ := h.tms t r ht
    exact ⟨AR.low_mono hus h1, AR.ok_step hU hG hm h1 h2⟩
/-- Nothing was written. -/
theorem OkB.still (h : OkB n G0 w0 F β a w) {w' : World} (hb : Below w.heap.size w w') : OkB n G0 w0 F β a w' := by
  refine ⟨h.size, h.defers, fun t r ht => ?_, fun j t cs hj => ?_, h.inj, h.new, h.since.stay hb, h.low⟩
  · obtain ⟨h1, h2⟩ := h.tms t r ht
    exact ⟨h1, AR.ok_step (U := F.us) (fun _ _ => rfl) (fun _ h => .inl h) (Mv.of_below hb) h1 h2⟩
  · obtain ⟨h1, vs, h2, h3, h4⟩ := h.bxs j t cs hj
    exact ⟨h1, vs, h2.stay hb, h3, oks_step (U := F.us) (fun _ _ => rfl) (fun _ h => .inl h) (Mv.of_below hb) h1 h4⟩
theorem OkB.quiet (h : OkB n G0 w0 F β a w) {d : Option Nat} {v : AR} {w' : World} {val : Value} (hd : ∀ t, d = some t → t < n) (hb : Below w.heap.size w w')
    (hv : v.ok (Gs G0 F.bx β) β w' val) (hl : v.low F.us) : OkB n G0 w0 (F.next d v .no) β (a.put d val) w' := by
  refine h.step hd (fun _ _ => rfl) (fun _ h => h) (fun _ h => .inl h) (Mv.of_below hb) hv hl (fun j t cs hj => ?_) h.inj h.new (h.since.stay hb)
  obtain ⟨h1, vs, h2, h3, h4⟩ := h.bxs j t cs hj
  exact ⟨h1, vs, h2.stay hb, h3, oks_step (U := F.us) (fun _ _ => rfl) (fun _ h => .inl h) (Mv.of_below hb) h1 h4⟩
/-- A box was read. -/
theorem OkB.rd (h : OkB n G0 w0 F β a w) {d : Option Nat} {v : AR} {val : Value} (j : Nat) (hd : ∀ t, d = some t → t < n)
    (hv : v.ok (Gs G0 F.bx β) β w val) (hl : v.low F.us) : OkB n G0 w0 (F.next d v (.rd j)) β (a.put d val) w :=
  h.quiet hd (Below.refl _ _) hv hl
/-- A box was made. -/
theorem OkB.alloc' (h : OkB n G0 w0 F β a w) {d : Option Nat} {id : Nat} {ty : TypeId} {cs : List AC} {vs : List Value} (hd : ∀ t, d = some t → t < n) (hid : ¬ F.us id)
    (hc : ∀ c ∈ cs, c.low F.us) (hvs : ∀ v ∈ vs, NoLimb v ∧ v.oneCell' = true) (ho : oks (Gs G0 F.bx β) β w cs vs) {rv : AR} {val : Value} (hrv : ∀ β' : Nat → Nat, β' id = w.heap.size → ∀ G w', rv.ok G β' w' val) (hrl : rv.low (fun k => k = id ∨ F.us k)) :
    ∃ β', OkB n G0 w0 (F.next d rv (.al id ty cs)) β' (a.put d val) (w.alloc (.cells vs.toArray ty)) := by
  have hbel : Below w.heap.size w (w.alloc (.cells vs.toArray ty)) := (Below.refl _ _).alloc (Nat.le_refl _) _
  refine ⟨fun j => if j = id then w.heap.size else β j, ?_⟩
  have hne : ∀ j, F.us j → j ≠ id := fun j hj e => hid (e ▸ hj)
  have hU : ∀ j, F.us j → (if j = id then w.heap.size else β j) = β j := fun j hj => if_neg (hne j hj)
  have hG : ∀ g, Gs G0 (F.next d rv (.al id ty cs)).bx (fun j => if j = id then w.heap.size else β j) g → Gs G0 F.bx β g ∨ w.heap.size ≤ g := by
    rintro g (hg | ⟨j, hj, rfl⟩)
    · exact .inl (.inl hg)
    · by_cases e : j = id
      · right; simp [e]
      · left
        simp only [FSt.next, if_neg e] at hj
        exact .inr ⟨j, hj, by simp [e]⟩
  refine h.step hd hU (fun j hj => .inr hj) hG (Mv.of_below hbel) (hrv (fun j => if j = id then w.heap.size else β j) (by simp) _ _) hrl (fun j t cs' hj => ?_) (fun j j' hj hj' e => ?_) (fun j hj => ?_) (h.since.stay hbel)
  · simp only [FSt.next] at hj
    by_cases e : j = id
    · subst e
      rw [if_pos rfl] at hj
      cases hj
      refine ⟨fun c hx => AC.low_mono (fun _ h => .inr h) (hc c hx), vs, ?_, fun v hv => (hvs v hv).2, oks_step hU hG (Mv.of_below hbel) hc ho⟩
      simp only [if_pos]
      exact ⟨heap_alloc_new w _, fun v hv => (hvs v hv).1⟩
    · rw [if_neg e] at hj
      obtain ⟨h1, vs', h2, h3, h4⟩ := h.bxs j t cs' hj
      refine ⟨fun c hx => AC.low_mono (fun _ h => .inr h) (h1 c hx), vs', ?_, h3, oks_step hU hG (Mv.of_below hbel) h1 h4⟩
      simp only [if_neg e]
      exact h2.stay hbel
  · simp only [FSt.next] at hj hj'
    by_cases e1 : j = id <;> by_cases e2 : j' = id
    · exact e1.trans e2.symm
    · simp only [if_pos e1, if_neg e2] at e hj'
      obtain ⟨p, hp⟩ := Option.isSome_iff_exists.1 hj'
      obtain ⟨_, vs', h2, _⟩ := h.bxs j' p.1 p.2 hp
      have := h2.lt
      omega
    · simp only [if_neg e1, if_pos e2] at e hj
      obtain ⟨p, hp⟩ := Option.isSome_iff_exists.1 hj
      obtain ⟨_, vs', h2, _⟩ := h.bxs j p.1 p.2 hp
      have := h2.lt
      omega
    · simp only [if_neg e1, if_neg e2] at e hj hj'
      exact h.inj j j' hj hj' e
  · simp only [FSt.next] at hj ⊢
    by_cases e : j = id
    · rw [if_pos e]
      exact ⟨h.since.size, .inl e⟩
    · rw [if_neg e] at hj ⊢
      exact ⟨(h.new j hj).1, .inr (h.new j hj).2⟩
/-- A box was made: its pointer. -/
theorem OkB.alloc (h : OkB n G0 w0 F β a w) {d : Option Nat} {id : Nat} {ty : TypeId} {cs : List AC} {vs : List Value} (hd : ∀ t, d = some t → t < n) (hid : ¬ F.us id)
    (hc : ∀ c ∈ cs, c.low F.us) (hvs : ∀ v ∈ vs, NoLimb v ∧ v.oneCell' = true) (ho : oks (Gs G0 F.bx β) β w cs vs) :
    ∃ β', OkB n G0 w0 (F.next d (.val (.one (.ptr id 0))) (.al id ty cs)) β' (a.put d (.pointer (some ⟨w.heap.size, 0, none⟩))) (w.alloc (.cells vs.toArray ty)) :=
  h.alloc' hd hid hc hvs ho (fun β' e G w' => by simp [AR.ok, AV.ok, AC.ok, e]) (.inl rfl)
theorem BoxN.cells {w : World} {g : Nat} {t : TypeId} : ∀ {cs vs us : List Value} {o : Nat}, BoxN w g t cs → (∀ v ∈ vs, NoLimb v) → layO cs o vs = some us → BoxN (w.setCells g o vs) g t us ∧ Put g w (w.setCells g o vs) := by
  intro cs vs
  induction vs generalizing w cs with
  | nil =>
    intro us o hb _ hl
    obtain ⟨h1, h2, h3⟩ := layO_get hl
    obtain rfl : us = cs := List.ext_getElem? fun k => by rw [h3, if_neg (by simp)]
    exact ⟨hb, Put.refl hb⟩
  | cons v vs ih =>
    intro us o hb hn hl
    obtain ⟨h1, h2, h3⟩ := layO_get hl
    obtain ⟨hb1, p1⟩ := hb.set o v (hn v (by simp))
    obtain ⟨us', hl'⟩ := layO_some (cs := cs.set o v) (off := o + 1) (vs := vs) (by simp at h2 ⊢; omega)
    obtain ⟨g1, g2, g3⟩ := layO_get hl'
    obtain rfl : us = us' := List.ext_getElem? fun k => by
      rw [h3, g3]
      simp only [List.length_cons]
      by_cases e : k = o
      · subst e
        rw [if_pos (by omega), if_neg (by omega), List.getElem?_set_self (by simp at h2; omega)]
        simp
      · rw [List.getElem?_set_ne (Ne.symm e)]
        by_cases hk : o + 1 ≤ k ∧ k < o + 1 + vs.length
        · rw [if_pos (by omega), if_pos hk, show k - o = (k - (o + 1)) + 1 by omega]; simp
        · rw [if_neg (by omega), if_neg hk]
    obtain ⟨hb2, p2⟩ := ih hb1 (fun u hu => hn u (by simp [hu])) hl'
    exact ⟨hb2, p1.trans p2⟩
def AC.keepable : AC → Bool
  | .any => false
  | .und => false
  | .i .u64 _ => false
  | _ => true
theorem AC.keep {G : Nat → Prop} {β : Nat → Nat} {w : World} {c : AC} {v : Value} (hk : c.keepable = true) (h : c.ok G β w v) : NoLimb v ∧ v.oneCell' = true := by
  cases c with
  | any => cases hk
  | und => cases hk
  | b x => rw [show v = .bool x from h]; exact ⟨noLimb_bool _, rfl⟩
  | i k m =>
    rw [show v = .int k m from h]
    refine ⟨fun j e => ?_, rfl⟩
    injection e with e1 _
    subst e1
    cases hk
  | ptr j off => rw [show v = .pointer (some ⟨β j, off, none⟩) from h]; exact ⟨fun _ => by simp, rfl⟩
  | sl j off len cap => rw [show v = .slice (some ⟨β j, off, none⟩) len cap from h]; exact ⟨noLimb_slice _ _ _, rfl⟩
  | st p => exact p.cell h
theorem oks_keep {G : Nat → Prop} {β : Nat → Nat} {w : World} {cs : List AC} {vs : List Value} (hk : cs.all AC.keepable = true) (h : oks G β w cs vs) : ∀ v ∈ vs, NoLimb v ∧ v.oneCell' = true := by
  intro v hv
  obtain ⟨k, hk2⟩ := List.getElem?_of_mem hv
  have hl := oks_len h
  obtain ⟨c, hc⟩ : ∃ c, cs[k]? = some c := ⟨cs[k]'(by have := (List.getElem?_eq_some_iff.1 hk2).1; omega), List.getElem?_eq_getElem _⟩
  obtain ⟨u, hu, hok⟩ := oks_get h k c hc
  rw [hk2] at hu
  cases hu
  exact AC.keep (List.all_eq_true.1 hk c (List.mem_of_getElem? hc)) hok
/-- A box was written. -/
theorem OkB.store (h : OkB n G0 w0 F β a w) {d : Option Nat} {j off : Nat} {ty : TypeId} {bs cs r : List AC} {vs : List Value} {val : Value} (hd : ∀ t, d = some t → t < n)
    (hj : F.bx j = some (ty, bs)) (hr : layO bs off cs = some r) (hk : cs.all AC.keepable = true) (hl : ∀ c ∈ cs, c.low F.us) (hv : oks (Gs G0 F.bx β) β w cs vs) {rv : AR} (hrv : ∀ G w', rv.ok G β w' val) (hrl : rv.low F.us) :
    OkB n G0 w0 (F.next d rv (.wr j off cs)) β (a.put d val) (w.setCells (β j) off vs) := by
  obtain ⟨hl0, us, hb, h1, hok⟩ := h.bxs j ty bs hj
  obtain ⟨us', hus', hok'⟩ := oks_lay hok hv hr
  have hkeep := oks_keep hk hv
  obtain ⟨hb', p⟩ := hb.cells (fun v hv => (hkeep v hv).1) hus'
  have hdom : ∀ k, ((F.next d rv (.wr j off cs)).bx k).isSome = (F.bx k).isSome := by
    intro k
    simp only [FSt.next]
    split <;> simp
  have hGe : Gs G0 (F.next d rv (.wr j off cs)).bx β = Gs G0 F.bx β := by
    funext g
    unfold Gs
    simp only [hdom]
  have hGj : Gs G0 F.bx β (β j) := .inr ⟨j, by rw [hj]; rfl, rfl⟩
  have hm : Mv (Gs G0 F.bx β) w (w.setCells (β j) off vs) := Mv.of_put p hGj
  refine h.step hd (fun _ _ => rfl) (fun _ h => h) (fun g hg => .inl (by rw [hGe] at hg; exact hg)) (by rw [hGe]; exact hm) (hrv _ _) hrl (fun k t cs' hk' => ?_) (fun k k' hk1 hk2 => h.inj k k' (by rw [hdom] at hk1; exact hk1) (by rw [hdom] at hk2; exact hk2)) (fun k hk1 => h.new k (by rw [hdom] at hk1; exact hk1)) (h.since.put p (h.new j (by rw [hj]; rfl)).1)
  rw [hGe]
  simp only [FSt.next] at hk' ⊢
  by_cases e : k = j
  · subst e
    rw [if_pos rfl, hj] at hk'
    simp only [Option.map_some, layD, hr, Option.getD_some] at hk'
    cases hk'
    obtain ⟨q1, q2, q3⟩ := layO_get hr
    refine ⟨fun c hc => ?_, us', hb', fun v hv => ?_, oks_step (U := F.us) (fun _ _ => rfl) (fun _ h => .inl h) hm (fun c hc => ?_) hok'⟩
    · obtain ⟨m, hm2⟩ := List.getElem?_of_mem hc
      rw [q3] at hm2
      split at hm2
      · exact hl c (List.mem_of_getElem? hm2)
      · exact hl0 c (List.mem_of_getElem? hm2)
    · obtain ⟨m, hm2⟩ := List.getElem?_of_mem hv
      rw [(layO_get hus').2.2] at hm2
      split at hm2
      · exact (hkeep v (List.mem_of_getElem? hm2)).2
      · exact h1 v (List.mem_of_getElem? hm2)
    · obtain ⟨m, hm2⟩ := List.getElem?_of_mem hc
      rw [q3] at hm2
      split at hm2
      · exact hl c (List.mem_of_getElem? hm2)
      · exact hl0 c (List.mem_of_getElem? hm2)
  · rw [if_neg e] at hk'
    obtain ⟨g1, vs', g2, g3, g4⟩ := h.bxs k t cs' hk'
    exact ⟨g1, vs', g2.put p (fun e2 => e (h.inj k j (by rw [hk']; rfl) (by rw [hj]; rfl) e2)), g3, oks_step (U := F.us) (fun _ _ => rfl) (fun _ h => .inl h) hm g1 g4⟩
end
end Go.Proofs.YtjbagikfogejnaaGreatDoor
/- An abstract machine: the operations, and code. -/
namespace Go.Proofs.YtjbagikfogejnaaGreatDoor
open Go.RowKit Go.Deep
theorem enters_of {P : Program} {f : FuncId} {fn : Func} {c : Code} (hf : P.funcs[f]? = some fn) (hname : (fn.name == "runtime.NumGoroutine") = false) (hb : fn.body = some c) (args : Array Value) (w : World) :
    (callFunc f args).run P w = .ok (.enter f args) w := by
  have h1 : fn.name ≠ "runtime.NumGoroutine" := by simpa using hname
  simp [callFunc, hf, h1, hb]
def mkVal (row : Bool) (vs : List Value) : Value := if row then .agg vs.toArray else vs.headD undef
def mkAV : Bool → List AC → AV
  | true, cs => .agg cs
  | false, [c] => .one c
  | false, _ => .one .any
/-- What is known of a type: how many cells, a row or one. -/
structure TyI (P : Program) (ty : TypeId) (n : Nat) (row : Bool) : Prop where
  loadA : ∀ (w : World) (a : Addr) (vs : List Value), (∀ j v, vs[j]? = some v → w.cell? (a.add j) = some v) → vs.length = n → (loadVar ty a).run P w = .ok (mkVal row vs) w
  load : ∀ (w : World) (b o : Nat) (vs : List Value), w.rangeAt b o vs → vs.length = n → (loadVar ty ⟨b, o, none⟩).run P w = .ok (mkVal row vs) w
  store : ∀ (w : World) (b o : Nat) (vs : List Value), w.there b o n → vs.length = n → (∀ v ∈ vs, v.oneCell' = true) → (storeVar ty ⟨b, o, none⟩ (mkVal row vs)).run P w = .ok () (w.setCells b o vs)
  one : row = false → n = 1
/-- A type's value at first. -/
def TyZ (P : Program) (ty : TypeId) (zs : List AC) : Prop :=
  ∃ (row : Bool) (vs : List Value), (∀ w, (zeroValue ty).run P w = .ok (mkVal row vs) w) ∧ (row = false → vs.length = 1) ∧ (∀ v ∈ vs, NoLimb v ∧ v.oneCell' = true) ∧ (∀ G β w, oks G β w zs vs) ∧ ∀ c ∈ zs, c.nop = true
section
variable {P : Program}
theorem tyI_row {ty : TypeId} {n : Nat} {d : TypeDesc} (hu : P.underlying ty = some d) (hd : d.isRow = true) (hi : (P.info? ty).map (·.size) = some n) : TyI P ty n true where
  loadA := fun w a vs hr hl => by
    subst hl
    have hl := run_loadCells_list (P := P) w a vs hr
    cases hq : P.info? ty with
    | none => simp [hq] at hi
    | some i =>
      have hs : i.size = vs.length := by simpa [hq] using hi
      have hagg : (isAgg ty).run P w = .ok true w := by
        unfold isAgg
        rw [Sem.run_bind, run_underlying hu w]
        cases d <;> simp_all
      simp [loadVar, Sem.run_bind, hagg, sizeOf, typeInfo, hq, hs, hl, mkVal]
  load := fun w b o vs hr hl => by
    subst hl
    exact run_loadVar_mid w b o ty vs d hr hu hd hi
  store := fun w b o vs ht hl h1 => by
    subst hl
    exact run_storeVar_mid w b o ty vs.toArray (by simpa using ht) (by simpa using hi) (all_oneCell_toArray h1)
  one := fun h => by cases h
theorem oneCell_cells {v : Value} (h : v.oneCell' = true) : v.cells = #[v] := by cases v <;> first | rfl | (simp [Value.oneCell'] at h)
theorem tyI_one {ty : TypeId} {d : TypeDesc} (hu : P.underlying ty = some d) (hd : d.isRow = false) (hi : (P.info? ty).map (·.size) = some 1) : TyI P ty 1 false where
  loadA := fun w a vs hr hl => by
    obtain ⟨v, rfl⟩ : ∃ v, vs = [v] := List.length_eq_one_iff.1 hl
    have hc := hr 0 v (by simp)
    have hagg : (isAgg ty).run P w = .ok false w := by
      unfold isAgg
      rw [Sem.run_bind, run_underlying hu w]
      cases d <;> first | (simp [TypeDesc.isRow] at hd; done) | simp
    have hz : a.add 0 = a := by unfold Addr.add; rw [if_pos rfl]
    rw [hz] at hc
    have hl : (Go.load a).run P w = .ok v w := by
      rw [run_load]
      simp [hc]
    have hl2 : (loadVar ty a).run P w = (Go.load a).run P w := by
      unfold loadVar
      rw [Sem.run_bind, hagg]
      rfl
    rw [hl2, hl]
    rfl
  load := fun w b o vs hr hl => by
    obtain ⟨v, rfl⟩ : ∃ v, vs = [v] := List.length_eq_one_iff.1 hl
    have hc := hr 0 v (by simp)
    have hagg : (isAgg ty).run P w = .ok false w := by
      unfold isAgg
      rw [Sem.run_bind, run_underlying hu w]
      cases d <;> first | (simp [TypeDesc.isRow] at hd; done) | simp
    have hl : (Go.load ⟨b, o, none⟩).run P w = .ok v w := by
      rw [run_load]
      simp only [Nat.add_zero] at hc
      simp [hc]
    have hl2 : (loadVar ty ⟨b, o, none⟩).run P w = (Go.load ⟨b, o, none⟩).run P w := by
      unfold loadVar
      rw [Sem.run_bind, hagg]
      rfl
    rw [hl2, hl]
    rfl
  store := fun w b o vs ht hl h1 => by
    obtain ⟨v, rfl⟩ : ∃ v, vs = [v] := List.length_eq_one_iff.1 hl
    have hv := oneCell_cells (h1 v (by simp))
    have := run_storeCells_cells (P := P) b o [v] 0 w (fun j hj => by simpa using (ht j (by simpa using hj)).1) (fun j hj => by simpa using (ht j (by simpa using hj)).2) h1
    cases hq : P.info? ty with
    | none => simp [hq] at hi
    | some i =>
      have hs : i.size = 1 := by simpa [hq] using hi
      simp only [Nat.add_zero] at this
      simp [storeVar, sizeOf, typeInfo, hq, hv, hs, mkVal, this]
  one := fun _ => rfl
theorem tyZ_of {ty : TypeId} {i : TypeInfo} {z : Value} {zs : List AC} (row : Bool) (vs : List Value) (hi : P.info? ty = some i) (hz : i.zero = some z) (he : z = mkVal row vs) (h1 : row = false → vs.length = 1)
    (h2 : ∀ v ∈ vs, NoLimb v ∧ v.oneCell' = true) (h3 : ∀ G β w, oks G β w zs vs) (h4 : ∀ c ∈ zs, c.nop = true) : TyZ P ty zs :=
  ⟨row, vs, fun w => by simp [zeroValue, typeInfo, hi, hz, he], h1, h2, h3, h4⟩
/-- An operation that reads values alone, and may lay new memory. -/
def Quiet (P : Program) (o : Oper) (ev : Operand → Option AR) (v : AR) : Prop :=
  ∀ (G : Nat → Prop) (β : Nat → Nat) (w : World) (U : Nat → Prop) (ρ : Operand → Value), (∀ g, G g → g < w.heap.size) → (∀ c, ρ (.const c) = c) →
    (∀ x r, x ∈ o.op.operands.toList → ev x = some r → r.low U ∧ r.ok G β w (ρ x)) → ∃ val w', (execOp ρ o).run P w = .ok (.value val) w' ∧ Below w.heap.size w w' ∧ v.ok G β w' val ∧ v.low U
/-- A contract: from values to a value; nothing that was there is written. -/
structure Ct (P : Program) (f : FuncId) (args : List AR) (res : AR) : Prop where
  enters : ∀ (vals : Array Value) (w : World), (callFunc f vals).run P w = .ok (.enter f vals) w
  nop : res.nop = true
  calls : ∀ (G : Nat → Prop) (β : Nat → Nat) (w : World) (vals : List Value), Ready G w → oksR G β w args vals →
    Calls P f vals.toArray w fun e w' => ∃ v, e = .returned v ∧ res.ok G β w' v ∧ Below w.heap.size w w'
/-- A new row, as it is made. -/
def TyM (P : Program) (ty e : TypeId) (cap : Nat) (zs : List AC) : Prop :=
  ∃ vs : List Value, (∀ (w : World) (len : Nat), len ≤ cap → (Instr.makeSlice ty (.int .i64 (len : Int)) (.int .i64 (cap : Int))).run P w = .ok (.slice (some ⟨w.heap.size, 0, none⟩) len cap) (w.alloc (.cells vs.toArray e))) ∧
    (∀ v ∈ vs, NoLimb v ∧ v.oneCell' = true) ∧ (∀ G β w, oks G β w zs vs) ∧ ∀ c ∈ zs, c.nop = true
/-- A slice of m elements, that is only read: its cells. -/
def rowP (m : Nat) (cs : List AC) (hn : ∀ c ∈ cs, c.nop = true) : Pred where
  is := fun G w v => ∃ g c vs, v = .slice (some ⟨g, 0, none⟩) m c ∧ ¬ G g ∧ g < w.heap.size ∧ (∀ j u, vs[j]? = some u → w.cell? ⟨g, j, none⟩ = some u) ∧ ∀ β, oks G β w cs vs
  cell := by
    rintro G w v ⟨g, c, vs, rfl, _⟩
    exact ⟨noLimb_slice _ _ _, rfl⟩
  stay := by
    rintro G w w' v ⟨g, c, vs, rfl, hG, hg, hc, ho⟩ mv
    have mv' := mv
    obtain ⟨H, hH, e⟩ := mv.ext
    have hblk : w'.heap[g]? = w.heap[g]? := e.block _ hg fun h => hG (hH _ h)
    exact ⟨g, c, vs, rfl, hG, Nat.lt_of_lt_of_le hg e.size, fun j u hj => by rw [cell_of_block (w := w) (by exact hblk)]; exact hc j u hj,
      fun β => oks_step (U := fun _ => True) (fun _ _ => rfl) (fun _ h => .inl h) mv' (fun c hcm => AC.nop_low (hn c hcm) _) (ho β)⟩
  grow := by
    rintro G G' w v ⟨g, c, vs, rfl, hG, hg, hc, ho⟩ hgr
    refine ⟨g, c, vs, rfl, fun h => ?_, hg, hc, fun β => oks_step (U := fun _ => True) (fun _ _ => rfl) hgr (Mv.refl _ _) (fun c hcm => AC.nop_low (hn c hcm) _) (ho β)⟩
    rcases hgr _ h with h | h
    · exact hG h
    · omega
def evs (ev : Operand → Option AR) : List Operand → Option (List AR)
  | [] => some []
  | x :: xs => match ev x with
    | some r => match evs ev xs with
      | some rs => some (r :: rs)
      | none => none
    | none => none
theorem evs_cons {ev : Operand → Option AR} {x : Operand} {xs : List Operand} {r : AR} {rs : List AR} (h1 : ev x = some r) (h2 : evs ev xs = some rs) : evs ev (x :: xs) = some (r :: rs) := by simp [evs, h1, h2]
inductive OpOk (P : Program) (F : FSt) (o : Oper) : AR → Eff → Prop
  | quiet (v : AR) (h : Quiet P o F.ev v) : OpOk P F o v .no
  | load (ty : TypeId) (x : Operand) (j off n : Nat) (row : Bool) (t : TypeId) (bs cs : List AC) (ho : o.op = .load ty x) (hx : F.ev x = some (.val (.one (.ptr j off)))) (hb : F.bx j = some (t, bs))
      (hr : rdO bs off n = some cs) (hty : TyI P ty n row) : OpOk P F o (.val (mkAV row cs)) (.rd j)
  | alloc (ty : TypeId) (id : Nat) (zs : List AC) (ho : o.op = .alloc ty) (hz : TyZ P ty zs) (hid : ¬ F.us id) : OpOk P F o (.val (.one (.ptr id 0))) (.al id ty zs)
  | box (ty : TypeId) (x : Operand) (id : Nat) (row : Bool) (cs : List AC) (ho : o.op = .box ty x) (hx : F.ev x = some (.val (mkAV row cs))) (hone : row = false → cs.length = 1) (hk : cs.all AC.keepable = true) (hid : ¬ F.us id) : OpOk P F o (.val (.one (.ptr id 0))) (.al id ty cs)
  | store (ty : TypeId) (x y : Operand) (j off n : Nat) (row : Bool) (t : TypeId) (bs cs r : List AC) (ho : o.op = .store ty x y) (hx : F.ev x = some (.val (.one (.ptr j off)))) (hb : F.bx j = some (t, bs))
      (hy : F.ev y = some (.val (mkAV row cs))) (hn : cs.length = n) (hr : layO bs off cs = some r) (hk : cs.all AC.keepable = true) (hty : TyI P ty n row) : OpOk P F o (.val (.one .any)) (.wr j off cs)
  | mk (ty e : TypeId) (l c : Operand) (id len cap : Nat) (zs : List AC) (ho : o.op = .makeSlice ty l c) (hl : F.ev l = some (.val (.one (.i .i64 (len : Int))))) (hc : F.ev c = some (.val (.one (.i .i64 (cap : Int))))) (hz : TyM P ty e cap zs) (hle : len ≤ cap) (hid : ¬ F.us id) : OpOk P F o (.val (.one (.sl id 0 len cap))) (.al id e zs)
  | app (t e : TypeId) (i : TypeInfo) (x y : Operand) (j len cap m : Nat) (bs cs r : List AC) (hn : ∀ c ∈ cs, c.nop = true) (ho : o.op = .call { callee := .builtin .append, args := #[x, y], argTypes := #[t, t] }) (hx : F.ev x = some (.val (.one (.sl j 0 len cap)))) (hy : F.ev y = some (.val (.one (.st (rowP m cs hn)))))
      (hb : F.bx j = some (e, bs)) (hu : P.underlying t = some (.slice e)) (hi : P.info? e = some i) (hm : cs.length = m * i.size) (hroom : len + m ≤ cap) (hr : layO bs (len * i.size) cs = some r) (hk : cs.all AC.keepable = true) : OpOk P F o (.val (.one (.sl j 0 (len + m) cap))) (.wr j (len * i.size) cs)
  | call (f : FuncId) (xs : Array Operand) (ats : Array TypeId) (ars : List AR) (res : AR) (ho : o.op = .call { callee := .value (.func f), args := xs, argTypes := ats }) (ha : evs F.ev xs.toList = some ars) (hc : Ct P f ars res) : OpOk P F o res .no
  | callc (x : Operand) (f : FuncId) (p : Pred) (xs : Array Operand) (ats : Array TypeId) (ars cs : List AR) (res : AR) (ho : o.op = .call { callee := .value x, args := xs, argTypes := ats }) (hx : F.ev x = some (.val (.one (.st p))))
      (hp : ∀ G w v, p.is G w v → ∃ vs : List Value, v = .func (.func f) #[] vs.toArray ∧ ∀ β, oksR G β w cs vs) (ha : evs F.ev xs.toList = some ars) (hc : Ct P f (ars ++ cs) res) : OpOk P F o res .no
theorem oksR_app {G : Nat → Prop} {β : Nat → Nat} {w : World} : ∀ {cs : List AR} {vs : List Value} {ds : List AR} {us : List Value}, oksR G β w cs vs → oksR G β w ds us → oksR G β w (cs ++ ds) (vs ++ us)
  | [], [], _, _, _, h => h
  | _ :: _, _ :: _, _, _, h, k => ⟨h.1, oksR_app h.2 k⟩
  | [], _ :: _, _, _, h, _ => h.elim
  | _ :: _, [], _, _, h, _ => h.elim
theorem oksR_evs {n : Nat} {G0 : Nat → Prop} {w0 : World} {F : FSt} {β : Nat → Nat} {a : Act} {w : World} (h : OkB n G0 w0 F β a w) : ∀ {xs : List Operand} {ars : List AR}, evs F.ev xs = some ars → oksR (Gs G0 F.bx β) β w ars (xs.map a.eval)
  | [], ars, e => by simp [evs] at e; subst e; trivial
  | x :: xs, ars, e => by
    simp only [evs] at e
    cases h1 : F.ev x with
    | none => simp [h1] at e
    | some r =>
      cases h2 : evs F.ev xs with
      | none => simp [h1, h2] at e
      | some rs =>
        simp [h1, h2] at e
        subst e
        exact ⟨(h.ev h1).2, oksR_evs h h2⟩
theorem mkAV_ok {G : Nat → Prop} {β : Nat → Nat} {w : World} {row : Bool} {cs : List AC} {vs : List Value} (h : oks G β w cs vs) (h1 : row = false → vs.length = 1) : (mkAV row cs).ok G β w (mkVal row vs) := by
  cases row with
  | true => exact ⟨vs, rfl, h⟩
  | false =>
    obtain ⟨v, rfl⟩ : ∃ v, vs = [v] := List.length_eq_one_iff.1 (h1 rfl)
    have hl := oks_len h
    obtain ⟨c, rfl⟩ : ∃ c, cs = [c] := List.length_eq_one_iff.1 hl
    exact h.1
theorem mkAV_low {U : Nat → Prop} {row : Bool} {cs : List AC} (h : ∀ c ∈ cs, c.low U) : (mkAV row cs).low U := by
  cases row with
  | true => exact h
  | false =>
    rcases cs with _ | ⟨c, _ | ⟨d, cs⟩⟩
    · trivial
    · exact h c (by simp)
    · trivial
theorem low_mkAV {U : Nat → Prop} {row : Bool} {cs : List AC} (hn : row = false → cs.length = 1) (h : (mkAV row cs).low U) : ∀ c ∈ cs, c.low U := by
  cases row with
  | true => exact h
  | false =>
    obtain ⟨c, rfl⟩ : ∃ c, cs = [c] := List.length_eq_one_iff.1 (hn rfl)
    intro d hd
    simp at hd
    subst hd
    exact h
theorem mkAV_vals {G : Nat → Prop} {β : Nat → Nat} {w : World} {row : Bool} {cs : List AC} {v : Value} (hn : row = false → cs.length = 1) (h : (mkAV row cs).ok G β w v) : ∃ vs, v = mkVal row vs ∧ oks G β w cs vs := by
  cases row with
  | true => exact h
  | false =>
    obtain ⟨c, rfl⟩ : ∃ c, cs = [c] := List.length_eq_one_iff.1 (hn rfl)
    exact ⟨[v], rfl, h, trivial⟩
theorem Gs_lt {n : Nat} {G0 : Nat → Prop} {w0 : World} {F : FSt} {β : Nat → Nat} {a : Act} {w : World} (h : OkB n G0 w0 F β a w) : ∀ g, Gs G0 F.bx β g → g < w.heap.size := by
  rintro g (hg | ⟨j, hj, rfl⟩)
  · exact Nat.lt_of_lt_of_le (h.low.1 g hg) h.since.size
  · obtain ⟨p, hp⟩ := Option.isSome_iff_exists.1 hj
    obtain ⟨_, vs, h2, _⟩ := h.bxs j p.1 p.2 hp
    exact h2.lt
theorem Gs_ready {n : Nat} {G0 : Nat → Prop} {w0 : World} {F : FSt} {β : Nat → Nat} {a : Act} {w : World} (h : OkB n G0 w0 F β a w) : Ready (Gs G0 F.bx β) w := ⟨Gs_lt h, h.low.2.stay h.since⟩
/-- **One operation.** -/
theorem OkB.op {n : Nat} {G0 : Nat → Prop} {w0 : World} {F : FSt} {β : Nat → Nat} {a : Act} {w : World} (h : OkB n G0 w0 F β a w) {o : Oper} {v : AR} {e : Eff} (hd : ∀ d, o.dst = some d → d < n)
    (hop : OpOk P F o v e) {K : Act → World → Prop} {Q : Exit → Act → World → Prop} (hK : ∀ β' a' w', OkB n G0 w0 (F.next o.dst v e) β' a' w' → K a' w') : o.wp P a w K Q := by
  cases hop with
  | quiet v hq =>
    obtain ⟨val, w', h1, hb, h2, h3⟩ := hq (Gs G0 F.bx β) β w F.us a.eval (Gs_lt h) (fun _ => rfl) (fun x r _ hx => h.ev hx)
    unfold Oper.wp
    rw [h1]
    exact hK _ _ _ (h.quiet hd hb h2 h3)
  | load ty x j off m row t bs cs ho hx hb hr hty =>
    have hx' := (h.ev hx).2
    simp only [AR.ok, AV.ok, AC.ok] at hx'
    obtain ⟨hlow, vs, hbox, h1, hok⟩ := h.bxs j t bs hb
    obtain ⟨r1, r2, r3⟩ := rdO_get hr
    have hlen := oks_len hok
    have hys : oks (Gs G0 F.bx β) β w cs ((vs.drop off).take m) := by
      refine oks_of_get (by simp; omega) fun k c v hc hv => ?_
      have hk : k < m := by have := (List.getElem?_eq_some_iff.1 hc).1; omega
      rw [r3 k hk] at hc
      obtain ⟨u, hu, hcu⟩ := oks_get hok _ _ hc
      rw [List.getElem?_take, if_pos hk, List.getElem?_drop, hu] at hv
      cases hv
      exact hcu
    have hrange : w.rangeAt (β j) off ((vs.drop off).take m) := by
      intro k v hv
      rw [List.getElem?_take] at hv
      split at hv
      · rw [List.getElem?_drop] at hv
        exact hbox.at _ hv
      · cases hv
    have hl := hty.load w (β j) off _ hrange (by simp; omega)
    unfold Oper.wp execOp
    simp only [ho, hx', Instr.loadAt, Instr.sureAddr, Sem.run_bind, Sem.run_pure, Result.andThen_ok, hl, Oper.upon_value]
    refine hK _ _ _ (h.rd j hd (mkAV_ok hys fun e => ?_) (mkAV_low fun c hc => ?_))
    · have := hty.one e; simp; omega
    · obtain ⟨k, hk⟩ := List.getElem?_of_mem hc
      rw [r3 k (by have := (List.getElem?_eq_some_iff.1 hk).1; omega)] at hk
      exact hlow c (List.mem_of_getElem? hk)
  | alloc ty id zs ho hz hid =>
    obtain ⟨row, vs, h1, h2, h3, h4, h5⟩ := hz
    obtain ⟨β', hβ⟩ := h.alloc (d := o.dst) (ty := ty) (cs := zs) (vs := vs) hd hid (fun c hc => AC.nop_low (h5 c hc) _) h3 (h4 _ _ _)
    have hcells : (mkVal row vs).cells = vs.toArray := by
      cases row with
      | true => rfl
      | false =>
        obtain ⟨v, rfl⟩ : ∃ v, vs = [v] := List.length_eq_one_iff.1 (h2 rfl)
        exact oneCell_cells (h3 v (by simp)).2
    have hnew : (newVar ty (mkVal row vs)).run P w = .ok ⟨w.heap.size, 0, none⟩ (w.alloc (.cells vs.toArray ty)) := by
      unfold newVar newRow
      rw [hcells]
      rfl
    unfold Oper.wp execOp
    simp only [ho, Instr.alloc, Sem.run_bind, h1 w, Result.andThen_ok, hnew, Sem.run_pure, Oper.upon_value]
    exact hK _ _ _ hβ
  | box ty x id row cs ho hx hone hk hid =>
    obtain ⟨hxlow, hxok⟩ := h.ev hx
    obtain ⟨vs, hxe, hvs⟩ := mkAV_vals hone hxok
    have hkeep := oks_keep hk hvs
    obtain ⟨β', hβ⟩ := h.alloc (d := o.dst) (ty := ty) (cs := cs) (vs := vs) hd hid (low_mkAV hone hxlow) hkeep hvs
    have hcells : (mkVal row vs).cells = vs.toArray := by
      cases row with
      | true => rfl
      | false =>
        have := oks_len hvs
        obtain ⟨v, rfl⟩ : ∃ v, vs = [v] := List.length_eq_one_iff.1 (by rw [← this]; exact hone rfl)
        exact oneCell_cells (hkeep v (by simp)).2
    have hnew : (newVar ty (mkVal row vs)).run P w = .ok ⟨w.heap.size, 0, none⟩ (w.alloc (.cells vs.toArray ty)) := by
      unfold newVar newRow
      rw [hcells]
      rfl
    unfold Oper.wp execOp
    simp only [ho, hxe, Instr.box, Sem.run_bind, Result.andThen_ok, hnew, Sem.run_pure, Oper.upon_value]
    exact hK _ _ _ hβ
  | store ty x y j off m row t bs cs r ho hx hb hy hn hr hk hty =>
    have hx' := (h.ev hx).2
    simp only [AR.ok, AV.ok, AC.ok] at hx'
    have hone : row = false → cs.length = 1 := fun e => by rw [hn]; exact hty.one e
    obtain ⟨hylow, hyok⟩ := h.ev hy
    obtain ⟨ys, hye, hys⟩ := mkAV_vals hone hyok
    obtain ⟨hlow, vs, hbox, h1, hok⟩ := h.bxs j t bs hb
    obtain ⟨r1, r2, r3⟩ := layO_get hr
    have hlen := oks_len hok
    have hlen2 := oks_len hys
    have hkeep := oks_keep hk hys
    have hth : w.there (β j) off m := by
      intro k hk
      refine ⟨?_, hbox.free _⟩
      rw [hbox.at (off + k) (List.getElem?_eq_getElem (by omega))]
      rfl
    have hs := hty.store w (β j) off ys hth (by omega) (fun v hv => (hkeep v hv).2)
    unfold Oper.wp execOp
    simp only [ho, hx', hye, Instr.storeAt, Instr.sureAddr, Sem.run_bind, Sem.run_pure, Result.andThen_ok, hs, Oper.upon_skip]
    exact hK _ _ _ (h.store hd hb hr hk (low_mkAV hone hylow) hys (fun _ _ => trivial) trivial)
  | mk ty e l c id len cap zs ho hl hc hz hle hid =>
    have hl' : a.eval l = .int .i64 (len : Int) := (h.ev hl).2
    have hc' : a.eval c = .int .i64 (cap : Int) := (h.ev hc).2
    obtain ⟨vs, h1, h2, h3, h4⟩ := hz
    have hbel : Below w.heap.size w (w.alloc (.cells vs.toArray e)) := (Below.refl _ _).alloc (Nat.le_refl _) _
    unfold Oper.wp execOp
    simp only [ho, hl', hc', Sem.run_bind, h1 w len hle, Result.andThen_ok, Sem.run_pure, Oper.upon_value]
    obtain ⟨β', hβ⟩ := h.alloc' (d := o.dst) (ty := e) (cs := zs) (vs := vs) hd hid (fun c hc => AC.nop_low (h4 c hc) _) h2 (h3 _ _ _) (rv := .val (.one (.sl id 0 len cap))) (val := .slice (some ⟨w.heap.size, 0, none⟩) len cap) (fun β' e _ _ => by simp [AR.ok, AV.ok, AC.ok, e]) (.inl rfl)
    exact hK _ _ _ hβ
  | app t e i x y j len cap m bs cs r hn ho hx hy hb hu hi hm hroom hr hk =>
    have hx' : a.eval x = .slice (some ⟨β j, 0, none⟩) len cap := (h.ev hx).2
    obtain ⟨g, c, us, hy', hG, hg, hcell, hoks⟩ := (h.ev hy).2
    obtain ⟨hlow, vs, hbox, h1, hok⟩ := h.bxs j e bs hb
    obtain ⟨r1, r2, r3⟩ := layO_get hr
    have hl1 := oks_len hok
    have hl2 := oks_len (hoks β)
    have hkeep := oks_keep hk (hoks β)
    have hrun := run_append_room (P := P) w t o.type e i hu hi (β j) len cap vs.toArray hbox.1 ⟨g, 0, none⟩ m c us (by omega) (fun k u hk => by rw [add_plain]; exact hcell k u hk) (fun u hu => (hkeep u hu).2) hroom (by simp; omega)
    have hst : w.setRow (β j) (vs.toArray.toList.take (len * i.size) ++ us ++ vs.toArray.toList.drop (len * i.size + us.length)).toArray = w.setCells (β j) (len * i.size) us := by
      have e1 := run_storeCells_cells (P := P) (β j) (len * i.size) us 0 w (fun k hk => by rw [Nat.add_zero]; rw [hbox.at _ (List.getElem?_eq_getElem (show len * i.size + k < vs.length by omega))]; rfl) (fun k hk => hbox.free _) (fun v hv => (hkeep v hv).2)
      have e2 := run_storeCells_at P (β j) (len * i.size) e us 0 vs.toArray w hbox.1 (by simp; omega) (fun v hv => (hkeep v hv).2)
      rw [e1] at e2
      simp only [Nat.add_zero, Result.ok.injEq, true_and] at e2
      exact e2.symm
    rw [hst] at hrun
    obtain ⟨od, oop, oty, opos, oaf, ogd⟩ := o
    simp only at ho hrun
    subst ho
    unfold Oper.wp execOp
    simp only [resolve, invoke, builtin, hx', hy', List.map_toArray, List.map_cons, List.map_nil, Sem.run_bind, Sem.run_pure, Result.andThen_ok, hrun, Oper.upon_value]
    exact hK _ _ _ (h.store (ty := e) (bs := bs) (cs := cs) hd hb hr hk (fun c hc => AC.nop_low (hn c hc) _) (hoks β) (fun _ _ => rfl) (h.new j (by rw [hb]; rfl)).2)
  | call f xs ats ars res ho ha hc =>
    have hcalls := hc.calls (Gs G0 F.bx β) β w (xs.toList.map a.eval) (Gs_ready h) (oksR_evs h ha)
    obtain ⟨od, oop, oty, opos, oaf, ogd⟩ := o
    simp only at ho
    subst ho
    unfold Oper.wp
    rw [execOp_call_go]
    simp only [hc.enters, Oper.upon_enter]
    have e1 : (#[] ++ xs.map a.eval ++ #[] : Array Value) = (xs.toList.map a.eval).toArray := by
      apply Array.ext'
      simp
    rw [e1]
    refine hcalls.mono ?_
    rintro _ w' ⟨v, rfl, h1, h2⟩
    exact hK _ _ _ (h.quiet hd h2 h1 (AR.nop_low hc.nop _))
  | callc x f p xs ats ars cs res ho hx hp ha hc =>
    obtain ⟨vs, hv, hvs⟩ := hp _ _ _ (h.ev hx).2
    have hcalls := hc.calls (Gs G0 F.bx β) β w (xs.toList.map a.eval ++ vs) (Gs_ready h) (oksR_app (oksR_evs h ha) (hvs β))
    obtain ⟨od, oop, oty, opos, oaf, ogd⟩ := o
    simp only at ho
    subst ho
    have e1 : ((#[] : Array Value) ++ xs.map a.eval ++ vs.toArray : Array Value) = (xs.toList.map a.eval ++ vs).toArray := by
      apply Array.ext'
      simp
    have e2 : (execOp a.eval ⟨od, .call { callee := .value x, args := xs, argTypes := ats }, oty, opos, oaf, ogd⟩).run P w = (callFunc f (xs.toList.map a.eval ++ vs).toArray).run P w := by
      rw [← e1]
      unfold execOp
      simp only [resolve, hv, Deferred.ofValue, invoke, Sem.run_bind, Sem.run_pure, Result.andThen_ok]
    unfold Oper.wp
    rw [e2]
    simp only [hc.enters, Oper.upon_enter]
    refine hcalls.mono ?_
    rintro _ w' ⟨v, rfl, h1, h2⟩
    exact hK _ _ _ (h.quiet hd h2 h1 (AR.nop_low hc.nop _))
end
/-! ### the state, as lists -/
structure ASt where
  tm : List (Nat × AR)
  bx : List (Nat × TypeId × List AC)
  nb : Nat
def look {α : Type} : List (Nat × α) → Nat → Option α
  | [], _ => none
  | (k, v) :: r, t => bif Nat.beq k t then some v else look r t
def ASt.f (s : ASt) : FSt := ⟨look s.tm, look s.bx, fun j => j < s.nb⟩
def Ok (n : Nat) (G0 : Nat → Prop) (w0 : World) (s : ASt) (a : Act) (w : World) : Prop := ∃ β, OkB n G0 w0 s.f β a w
def ASt.ev (s : ASt) (x : Operand) : Option AR := s.f.ev x
theorem look_cons {α : Type} (k : Nat) (v : α) (r : List (Nat × α)) (t : Nat) : look ((k, v) :: r) t = if k = t then some v else look r t := by
  simp only [look]
  by_cases h : k = t
  · subst h; simp
  · rw [if_neg h]
    have : Nat.beq k t = false := by rw [Bool.eq_false_iff]; exact fun e => h (Nat.eq_of_beq_eq_true e)
    rw [this]; rfl
/-- The next state, as lists. -/
inductive Nx (s : ASt) (d : Option Nat) (v : AR) : Eff → ASt → Prop
  | no (tm : List (Nat × AR)) (h : tm = (match d with | some d => (d, v) :: s.tm | none => s.tm)) : Nx s d v .no ⟨tm, s.bx, s.nb⟩
  | rd (j : Nat) (tm : List (Nat × AR)) (h : tm = (match d with | some d => (d, v) :: s.tm | none => s.tm)) : Nx s d v (.rd j) ⟨tm, s.bx, s.nb⟩
  | al (t : TypeId) (cs : List AC) (tm : List (Nat × AR)) (h : tm = (match d with | some d => (d, v) :: s.tm | none => s.tm)) : Nx s d v (.al s.nb t cs) ⟨tm, (s.nb, t, cs) :: s.bx, s.nb + 1⟩
  | wr (j off : Nat) (t : TypeId) (bs cs r : List AC) (tm : List (Nat × AR)) (h : tm = (match d with | some d => (d, v) :: s.tm | none => s.tm)) (hb : look s.bx j = some (t, bs)) (hr : layO bs off cs = some r) : Nx s d v (.wr j off cs) ⟨tm, (j, t, r) :: s.bx, s.nb⟩
theorem look_put {s : ASt} {d : Option Nat} {v : AR} : look (match d with | some d => (d, v) :: s.tm | none => s.tm) = fun t => if d = some t then some v else look s.tm t := by
  funext t
  cases d with
  | none => simp
  | some d => rw [look_cons]; simp
theorem Nx.f {s s' : ASt} {d : Option Nat} {v : AR} {e : Eff} (h : Nx s d v e s') : s'.f = s.f.next d v e := by
  cases h with
  | no tm h => subst h; unfold ASt.f FSt.next; simp only [look_put]
  | rd j tm h => subst h; unfold ASt.f FSt.next; simp only [look_put]
  | al t cs tm h =>
    subst h
    unfold ASt.f FSt.next
    simp only [look_put]
    congr 1
    · funext k
      rw [look_cons]
      by_cases e : s.nb = k
      · rw [if_pos e, if_pos e.symm]
      · rw [if_neg e, if_neg (Ne.symm e)]
    · funext k
      exact propext ⟨fun h => by omega, fun h => by omega⟩
  | wr j off t bs cs r tm h hb hr =>
    subst h
    unfold ASt.f FSt.next
    simp only [look_put]
    congr 1
    funext k
    rw [look_cons]
    by_cases e : j = k
    · subst e
      rw [if_pos rfl, if_pos rfl, hb]
      simp [layD, hr]
    · rw [if_neg e, if_neg (Ne.symm e)]
end Go.Proofs.YtjbagikfogejnaaGreatDoor
/- An abstract machine: regions, in whatever order. -/
namespace Go.Proofs.YtjbagikfogejnaaGreatDoor
open Go.RowKit Go.Deep
/-! ### what is waited for by a condition -/
def dstIn (all : List Oper) (j : Nat) : Option Nat := match all[j]? with
  | some o => o.dst
  | none => none
inductive GOk (all : List Oper) (tm : Nat → Option AR) : Option (Nat × Bool) → Bool → Prop
  | none : GOk all tm none true
  | some (j : Nat) (b : Bool) (d : Nat) (t : Bool) (want : Bool) (hd : dstIn all j = some d) (ht : tm d = some (.val (.one (.b t)))) (hw : want = (t == b)) : GOk all tm (some (j, b)) want
  | und (j : Nat) (b : Bool) (d : Nat) (hd : dstIn all j = some d) (ht : tm d = some (.val (.one .und))) : GOk all tm (some (j, b)) false
theorem wanted_of {n : Nat} {G0 : Nat → Prop} {w0 : World} {F : FSt} {β : Nat → Nat} {a : Act} {w : World} (h : OkB n G0 w0 F β a w) {all : List Oper} {o : Oper} {want : Bool} (hg : GOk all F.tm o.guard want) : Region.wanted o (yielded all.toArray a.tmps) = want := by
  unfold Region.wanted
  generalize o.guard = g at hg
  cases hg with
  | none => rfl
  | some j b d t want hd ht hw =>
    have hv := (h.tms d _ ht).2
    have hv : a.tmps.getD d undef = .bool t := hv
    have hs : a.tmps[d]? = some (.bool t) := by
      rw [Array.getD_eq_getD_getElem?] at hv
      cases he : a.tmps[d]? with
      | none => rw [he] at hv; simp [undef] at hv
      | some v => rw [he] at hv; simp at hv; rw [hv]
    have hd2 : (all.toArray[j]?).bind (·.dst) = some d := by
      unfold dstIn at hd
      cases hj : all[j]? with
      | none => rw [hj] at hd; cases hd
      | some o' => rw [hj] at hd; simpa [hj] using hd
    have hy : yielded all.toArray a.tmps j = some t := by
      unfold yielded
      rw [hd2, Option.bind_some, hs]
    simp only [hy]
    subst hw
    cases t <;> cases b <;> rfl
  | und j b d hd ht =>
    have hv := (h.tms d _ ht).2
    have hv : a.tmps.getD d undef = undef := hv
    have hd2 : (all.toArray[j]?).bind (·.dst) = some d := by
      unfold dstIn at hd
      cases hj : all[j]? with
      | none => rw [hj] at hd; cases hd
      | some o' => rw [hj] at hd; simpa [hj] using hd
    have hy : yielded all.toArray a.tmps j = none := by
      unfold yielded
      rw [hd2, Option.bind_some]
      rw [Array.getD_eq_getD_getElem?] at hv
      cases he : a.tmps[d]? with
      | none => rfl
      | some v => rw [he] at hv; simp at hv; rw [hv]; rfl
    simp only [hy]
    rfl
/-- What is done, or let be. -/
def Does (P : Program) (F : FSt) (o : Oper) (want : Bool) (v : AR) (e : Eff) : Prop := (want = true ∧ OpOk P F o v e) ∨ (want = false ∧ v = .val (.one .und) ∧ e = .no)
theorem OkB.does {P : Program} {n : Nat} {G0 : Nat → Prop} {w0 : World} {F : FSt} {β : Nat → Nat} {a : Act} {w : World} (h : OkB n G0 w0 F β a w) {o : Oper} {v : AR} {e : Eff} {want : Bool} (hd : ∀ d, o.dst = some d → d < n)
    (hop : Does P F o want v e) {K : Act → World → Prop} {Q : Exit → Act → World → Prop} (hK : ∀ β' a' w', OkB n G0 w0 (F.next o.dst v e) β' a' w' → K a' w') : if want = true then o.wp P a w K Q else K (a.put o.dst undef) w := by
  rcases hop with ⟨rfl, hop⟩ | ⟨rfl, rfl, rfl⟩
  · rw [if_pos rfl]
    exact h.op hd hop hK
  · rw [if_neg (by simp)]
    exact hK _ _ _ (h.quiet hd (Below.refl _ _) rfl trivial)
/-! ### the walk in the order of the text -/
inductive Lex (P : Program) (n : Nat) (all : List Oper) : ASt → List Oper → List (AR × Eff) → ASt → Prop
  | nil (s : ASt) : Lex P n all s [] [] s
  | cons (s s1 s' : ASt) (o : Oper) (ops : List Oper) (want : Bool) (v : AR) (e : Eff) (rs : List (AR × Eff)) (hg : GOk all s.f.tm o.guard want) (hd : ∀ d, o.dst = some d → d < n) (ho : Does P s.f o want v e) (hn : Nx s o.dst v e s1)
      (ht : Lex P n all s1 ops rs s') : Lex P n all s (o :: ops) ((v, e) :: rs) s'
theorem wpList_lex {P : Program} {n : Nat} {G0 : Nat → Prop} {w0 : World} {all : List Oper} {Q : Exit → Act → World → Prop} : ∀ {s : ASt} {ops : List Oper} {rs : List (AR × Eff)} {s' : ASt}, Lex P n all s ops rs s' →
    (∀ a w, Ok n G0 w0 s' a w → Q .normal a w) → ∀ a w, Ok n G0 w0 s a w → wpList P all.toArray Q ops a w := by
  intro s ops rs s' h
  induction h with
  | nil s => exact fun hQ a w h => hQ a w h
  | cons s s1 s' o ops want v e rs hg hd ho hn ht ih =>
    intro hQ a w h
    obtain ⟨β, h⟩ := h
    refine wpList_step fun K hK => ?_
    rw [wanted_of h hg]
    exact h.does hd ho fun β' a' w' h' => hK _ _ (ih hQ a' w' ⟨β', by rw [hn.f]; exact h'⟩)
/-! ### what has been done, in whatever order -/
section
variable (F0 : FSt) (ops : List Oper) (rs : List (AR × Eff))
def dstOf (k : Nat) : Option Nat := (ops[k]?).bind (·.dst)
def resOf (k : Nat) : AR × Eff := rs.getD k (.tup [], .no)
/-- Of the first m those that L lists. -/
def FL (L : Nat → Bool) : Nat → FSt
  | 0 => F0
  | m + 1 => if L m = true then (FL L m).next (dstOf ops m) (resOf rs m).1 (resOf rs m).2 else FL L m
end
def Eff.box : Eff → Option Nat
  | .no => none
  | .rd j => some j
  | .al id _ _ => some id
  | .wr j _ _ => some j
def Eff.out : Eff → Option Nat
  | .no => none
  | .rd _ => none
  | .al id _ _ => some id
  | .wr j _ _ => some j
theorem Eff.out_box {e : Eff} {j : Nat} (h : e.out = some j) : e.box = some j := by cases e <;> first | exact h | cases h
theorem next_tm {F : FSt} {d : Option Nat} {v : AR} {e : Eff} {t : Nat} (h : d ≠ some t) : (F.next d v e).tm t = F.tm t := by simp [FSt.next, h]
theorem next_bx {F : FSt} {d : Option Nat} {v : AR} {e : Eff} {j : Nat} (h : e.out ≠ some j) : (F.next d v e).bx j = F.bx j := by
  cases e with
  | no => rfl
  | rd k => rfl
  | al id t cs => simp only [FSt.next]; rw [if_neg (fun e => h (by subst e; rfl))]
  | wr k off vs => simp only [FSt.next]; rw [if_neg (fun e => h (by subst e; rfl))]
theorem next_tm_congr {F F' : FSt} {d : Option Nat} {v : AR} {e : Eff} {t : Nat} (h : F.tm t = F'.tm t) : (F.next d v e).tm t = (F'.next d v e).tm t := by simp [FSt.next, h]
theorem next_bx_congr {F F' : FSt} {d : Option Nat} {v : AR} {e : Eff} {j : Nat} (h : F.bx j = F'.bx j) : (F.next d v e).bx j = (F'.next d v e).bx j := by cases e <;> simp [FSt.next, h]
section
variable {F0 : FSt} {ops : List Oper} {rs : List (AR × Eff)}
abbrev allL : Nat → Bool := fun _ => true
theorem FL_tm_prefix {L : Nat → Bool} {t p : Nat} (m : Nat) (h : ∀ k, k < m → dstOf ops k = some t → (L k = true ↔ k < p)) (hp : p ≤ m) : (FL F0 ops rs L m).tm t = (FL F0 ops rs allL p).tm t := by
  have key : ∀ q, q ≤ m → (FL F0 ops rs L q).tm t = (FL F0 ops rs allL (min q p)).tm t := by
    intro q
    induction q with
    | zero => intro _; simp [FL]
    | succ q ih =>
      intro hq
      have ih := ih (by omega)
      by_cases hw : dstOf ops q = some t
      · have hL := h q (by omega) hw
        by_cases hl : L q = true
        · have hqp := hL.1 hl
          rw [show min (q + 1) p = q + 1 by omega]
          rw [show min q p = q by omega] at ih
          simp only [FL, hl, if_true]
          exact next_tm_congr ih
        · have hqp : ¬ q < p := fun e => hl (hL.2 e)
          rw [show min (q + 1) p = min q p by omega, ← ih]
          simp only [FL, if_neg hl]
      · have e1 : (FL F0 ops rs L (q + 1)).tm t = (FL F0 ops rs L q).tm t := by
          simp only [FL]
          split
          · exact next_tm hw
          · rfl
        rw [e1, ih]
        by_cases hqp : q < p
        · rw [show min (q + 1) p = q + 1 by omega, show min q p = q by omega]
          simp only [FL, allL, if_true]
          exact (next_tm hw).symm
        · rw [show min (q + 1) p = min q p by omega]
  rw [key m (Nat.le_refl _), Nat.min_eq_right hp]
theorem FL_bx_prefix {L : Nat → Bool} {j p : Nat} (m : Nat) (h : ∀ k, k < m → (resOf rs k).2.out = some j → (L k = true ↔ k < p)) (hp : p ≤ m) : (FL F0 ops rs L m).bx j = (FL F0 ops rs allL p).bx j := by
  have key : ∀ q, q ≤ m → (FL F0 ops rs L q).bx j = (FL F0 ops rs allL (min q p)).bx j := by
    intro q
    induction q with
    | zero => intro _; simp [FL]
    | succ q ih =>
      intro hq
      have ih := ih (by omega)
      by_cases hw : (resOf rs q).2.out = some j
      · have hL := h q (by omega) hw
        by_cases hl : L q = true
        · have hqp := hL.1 hl
          rw [show min (q + 1) p = q + 1 by omega]
          rw [show min q p = q by omega] at ih
          simp only [FL, hl, if_true]
          exact next_bx_congr ih
        · have hqp : ¬ q < p := fun e => hl (hL.2 e)
          rw [show min (q + 1) p = min q p by omega, ← ih]
          simp only [FL, if_neg hl]
      · have e1 : (FL F0 ops rs L (q + 1)).bx j = (FL F0 ops rs L q).bx j := by
          simp only [FL]
          split
          · exact next_bx hw
          · rfl
        rw [e1, ih]
        by_cases hqp : q < p
        · rw [show min (q + 1) p = q + 1 by omega, show min q p = q by omega]
          simp only [FL, allL, if_true]
          exact (next_bx hw).symm
        · rw [show min (q + 1) p = min q p by omega]
  rw [key m (Nat.le_refl _), Nat.min_eq_right hp]
theorem FL_tm_congr {L L' : Nat → Bool} {t : Nat} (m : Nat) (h : ∀ k, k < m → dstOf ops k = some t → L k = L' k) : (FL F0 ops rs L m).tm t = (FL F0 ops rs L' m).tm t := by
  induction m with
  | zero => rfl
  | succ m ih =>
    have ih := ih fun k hk => h k (by omega)
    simp only [FL]
    by_cases hw : dstOf ops m = some t
    · rw [h m (by omega) hw]
      split
      · exact next_tm_congr ih
      · exact ih
    · split <;> split <;> simp only [next_tm hw, ih]
theorem FL_bx_congr {L L' : Nat → Bool} {j : Nat} (m : Nat) (h : ∀ k, k < m → (resOf rs k).2.out = some j → L k = L' k) : (FL F0 ops rs L m).bx j = (FL F0 ops rs L' m).bx j := by
  induction m with
  | zero => rfl
  | succ m ih =>
    have ih := ih fun k hk => h k (by omega)
    simp only [FL]
    by_cases hw : (resOf rs m).2.out = some j
    · rw [h m (by omega) hw]
      split
      · exact next_bx_congr ih
      · exact ih
    · split <;> split <;> simp only [next_bx hw, ih]
def isAl (e : Eff) (j : Nat) : Prop := ∃ t cs, e = .al j t cs
theorem next_us {F : FSt} {d : Option Nat} {v : AR} {e : Eff} {j : Nat} : (F.next d v e).us j ↔ isAl e j ∨ F.us j := by
  cases e with
  | no => exact ⟨.inr, fun h => h.elim (fun ⟨_, _, h⟩ => by cases h) id⟩
  | rd k => exact ⟨.inr, fun h => h.elim (fun ⟨_, _, h⟩ => by cases h) id⟩
  | wr k off vs => exact ⟨.inr, fun h => h.elim (fun ⟨_, _, h⟩ => by cases h) id⟩
  | al id t cs =>
    simp only [FSt.next]
    constructor
    · rintro (rfl | h)
      · exact .inl ⟨_, _, rfl⟩
      · exact .inr h
    · rintro (⟨_, _, h⟩ | h)
      · cases h; exact .inl rfl
      · exact .inr h
theorem FL_us {L : Nat → Bool} {j : Nat} (m : Nat) : (FL F0 ops rs L m).us j ↔ F0.us j ∨ ∃ k, k < m ∧ L k = true ∧ isAl (resOf rs k).2 j := by
  induction m with
  | zero => simp [FL]
  | succ m ih =>
    simp only [FL]
    split
    · rename_i hl
      rw [next_us, ih]
      constructor
      · rintro (h | h | ⟨k, hk, h⟩)
        · exact .inr ⟨m, by omega, hl, h⟩
        · exact .inl h
        · exact .inr ⟨k, by omega, h⟩
      · rintro (h | ⟨k, hk, h1, h2⟩)
        · exact .inr (.inl h)
        · by_cases e : k = m
          · subst e; exact .inl h2
          · exact .inr (.inr ⟨k, by omega, h1, h2⟩)
    · rename_i hl
      rw [ih]
      constructor
      · rintro (h | ⟨k, hk, h⟩)
        · exact .inl h
        · exact .inr ⟨k, by omega, h⟩
      · rintro (h | ⟨k, hk, h1, h2⟩)
        · exact .inl h
        · by_cases e : k = m
          · subst e; exact absurd h1 hl
          · exact .inr ⟨k, by omega, h1, h2⟩
end
theorem FSt.ext' {F F' : FSt} (h1 : ∀ t, F.tm t = F'.tm t) (h2 : ∀ j, F.bx j = F'.bx j) (h3 : ∀ j, F.us j ↔ F'.us j) : F = F' := by
  cases F; cases F'
  simp only [FSt.mk.injEq]
  exact ⟨funext h1, funext h2, funext fun j => propext (h3 j)⟩
/-! ### the check -/
/-- Whom does each wait for, at last? As bits. -/
def masks (ws : List (List Nat)) : List Nat := ws.foldl (fun acc l => acc ++ [l.foldl (fun m j => m ||| (1 <<< j) ||| acc.getD j 0) 0]) []
inductive Anc (W : Nat → List Nat) : Nat → Nat → Prop
  | one {i k : Nat} (h : k ∈ W i) : Anc W i k
  | far {i j k : Nat} (h : j ∈ W i) (h' : Anc W j k) : Anc W i k
theorem masks_row {W : Nat → List Nat} {acc : List Nat} {i : Nat} (hacc : ∀ j k, (acc.getD j 0).testBit k = true → Anc W j k) :
    ∀ (l : List Nat) (m : Nat), (∀ j ∈ l, j ∈ W i) → (∀ k, m.testBit k = true → Anc W i k) → ∀ k, (l.foldl (fun m j => m ||| (1 <<< j) ||| acc.getD j 0) m).testBit k = true → Anc W i k
  | [], m, _, hm, k, h => hm k h
  | j :: l, m, hl, hm, k, h => by
    refine masks_row hacc l _ (fun x hx => hl x (by simp [hx])) (fun k hk => ?_) k h
    rw [Nat.testBit_or, Nat.testBit_or, Bool.or_eq_true, Bool.or_eq_true] at hk
    rcases hk with (hk | hk) | hk
    · exact hm k hk
    · rw [Nat.one_shiftLeft, Nat.testBit_two_pow] at hk
      exact .one (by rw [← of_decide_eq_true hk]; exact hl j (by simp))
    · exact .far (hl j (by simp)) (hacc j k hk)
theorem masks_anc {W : Nat → List Nat} : ∀ (ws : List (List Nat)) (acc : List Nat), (∀ x l, ws[x]? = some l → ∀ j ∈ l, j ∈ W (acc.length + x)) → (∀ j k, (acc.getD j 0).testBit k = true → Anc W j k) →
    ∀ j k, ((ws.foldl (fun acc l => acc ++ [l.foldl (fun m j => m ||| (1 <<< j) ||| acc.getD j 0) 0]) acc).getD j 0).testBit k = true → Anc W j k
  | [], acc, _, hacc, j, k, h => hacc j k h
  | l :: ws, acc, hw, hacc, j, k, h => by
    refine masks_anc ws _ (fun x l' hx y hy => ?_) (fun y z hz => ?_) j k h
    · have := hw (x + 1) l' (by simpa using hx) y hy
      rwa [show acc.length + (x + 1) = (acc ++ [l.foldl (fun m j => m ||| (1 <<< j) ||| acc.getD j 0) 0]).length + x by simp; omega] at this
    · rw [List.getD_eq_getElem?_getD] at hz
      rcases Nat.lt_trichotomy y acc.length with h1 | h1 | h1
      · rw [List.getElem?_append_left h1, ← List.getD_eq_getElem?_getD] at hz
        exact hacc y z hz
      · subst h1
        rw [List.getElem?_append_right (Nat.le_refl _)] at hz
        simp only [Nat.sub_self, List.getElem?_cons_zero, Option.getD_some] at hz
        exact masks_row hacc l 0 (fun j hj => by have := hw 0 l (by simp) j hj; simpa using this) (fun k hk => by simp at hk) z hz
      · rw [List.getElem?_append_right (by omega)] at hz
        have : y - acc.length ≠ 0 := by omega
        obtain ⟨q, hq⟩ := Nat.exists_eq_succ_of_ne_zero this
        rw [hq] at hz
        simp at hz
/-- The slots that an operation reads; the box that it meets. -/
def gSlot (all : List Oper) (o : Oper) : List Nat := match o.guard with
  | some (j, _) => match dstIn all j with
    | some d => [d]
    | none => []
  | none => []
def slotsOf (o : Oper) : List Nat := o.op.operands.toList.filterMap fun | .tmp t => some t | _ => none
def memB (t : Nat) : List Nat → Bool
  | [] => false
  | x :: xs => Nat.beq x t || memB t xs
theorem memB_iff {t : Nat} : ∀ {l : List Nat}, memB t l = true ↔ t ∈ l
  | [] => by simp [memB]
  | x :: xs => by
    simp only [memB, Bool.or_eq_true, memB_iff (l := xs), List.mem_cons]
    constructor
    · rintro (h | h)
      · exact .inl (Nat.eq_of_beq_eq_true h).symm
      · exact .inr h
    · rintro (h | h)
      · subst h; exact .inl (Nat.beq_refl t)
      · exact .inr h
/-- Does one of two write what the other meets? -/
structure Foot where
  reads : List Nat
  dst : Option Nat
  box : Option Nat
  out : Option Nat
def footOf (all : List Oper) (o : Oper) (r : AR × Eff) : Foot := ⟨gSlot all o ++ slotsOf o, o.dst, r.2.box, r.2.out⟩
def hits (w : Option Nat) (l : List Nat) : Bool := match w with | some t => memB t l | none => false
def sameO (a b : Option Nat) : Bool := match a, b with | some x, some y => Nat.beq x y | _, _ => false
def clash (a b : Foot) : Bool := hits a.dst b.reads || hits b.dst a.reads || sameO a.dst b.dst || sameO a.out b.box || sameO b.out a.box
def ordRow (f : Foot) (m : Nat) : List Foot → Nat → Bool
  | [], _ => true
  | g :: gs, k => (!(clash f g) || m.testBit k) && ordRow f m gs (k + 1)
/-- The feet, from the last one down: earlier ones that clash are waited for. -/
def ordAll : List (Foot × Nat) → Bool
  | [] => true
  | (f, m) :: rest => ordRow f m (rest.reverse.map (·.1)) 0 && ordAll rest
def waitsL (ops : List Oper) : List (List Nat) := ops.map fun o => (o.after.toList.filter fun e => Region.binds .any e).map (·.on)
def ordB (ops : List Oper) (rs : List (AR × Eff)) : Bool :=
  invB ops.toArray ops.length && ordAll (((ops.zipWith (footOf ops) rs).zip (masks (waitsL ops))).reverse)
theorem ordRow_get {f : Foot} {m : Nat} : ∀ {gs : List Foot} {k : Nat}, ordRow f m gs k = true → ∀ x g, gs[x]? = some g → clash f g = true → m.testBit (k + x) = true
  | [], _, _, x, g, hx, _ => by simp at hx
  | g :: gs, k, h, 0, g', hx, hc => by
    simp at hx; subst hx
    simp only [ordRow, Bool.and_eq_true, Bool.or_eq_true, Bool.not_eq_true'] at h
    rcases h.1 with h1 | h1
    · rw [hc] at h1; cases h1
    · exact h1
  | g :: gs, k, h, x + 1, g', hx, hc => by
    simp only [ordRow, Bool.and_eq_true] at h
    have := ordRow_get h.2 x g' (by simpa using hx) hc
    rwa [show k + 1 + x = k + (x + 1) by omega] at this
theorem ordAll_get : ∀ {l : List (Foot × Nat)}, ordAll l = true → ∀ (pre : List (Foot × Nat)) (f : Foot) (m : Nat) (post : List (Foot × Nat)), l.reverse = pre ++ (f, m) :: post → ∀ x g mg, pre[x]? = some (g, mg) → clash f g = true → m.testBit x = true
  | [], _, pre, f, m, post, h, _, _, _, _, _ => by simp at h
  | (f0, m0) :: rest, h, pre, f, m, post, hl, x, g, mg, hx, hc => by
    simp only [ordAll, Bool.and_eq_true] at h
    rcases List.eq_nil_or_concat post with rfl | ⟨post', y, rfl⟩
    · rw [List.reverse_cons] at hl
      have := List.append_inj' hl (by simp)
      obtain ⟨h1, h2⟩ := this
      cases h2
      have := ordRow_get h.1 x g (by rw [h1]; simp [hx]) hc
      simpa using this
    · rw [List.reverse_cons] at hl
      rw [List.concat_eq_append, ← List.cons_append, ← List.append_assoc] at hl
      have := (List.append_inj' hl (by simp)).1
      exact ordAll_get h.2 pre f m post' this x g mg hx hc
end Go.Proofs.YtjbagikfogejnaaGreatDoor
/- An abstract machine: a region that draws its order; code. -/
namespace Go.Proofs.YtjbagikfogejnaaGreatDoor
open Go.RowKit Go.Deep
section
variable {P : Program} {n : Nat} {all : List Oper}
theorem FL_shift {F0 : FSt} {o : Oper} {ops : List Oper} {v : AR} {e : Eff} {rs : List (AR × Eff)} (m : Nat) : FL F0 (o :: ops) ((v, e) :: rs) allL (m + 1) = FL (F0.next o.dst v e) ops rs allL m := by
  induction m with
  | zero => simp [FL, dstOf, resOf]
  | succ m ih =>
    rw [FL, ih]
    simp only [FL, allL, if_true, dstOf, resOf]
    simp
theorem lex_len {s s' : ASt} {ops : List Oper} {rs : List (AR × Eff)} (h : Lex P n all s ops rs s') : rs.length = ops.length := by
  induction h with
  | nil s => rfl
  | cons s s1 s' o ops want v e rs hg hd ho hn ht ih => simp [ih]
theorem lex_get {s s' : ASt} {ops : List Oper} {rs : List (AR × Eff)} (h : Lex P n all s ops rs s') : ∀ i, i < ops.length → ∃ o want v e, ops[i]? = some o ∧ rs[i]? = some (v, e) ∧ GOk all (FL s.f ops rs allL i).tm o.guard want ∧ (∀ d, o.dst = some d → d < n) ∧ Does P (FL s.f ops rs allL i) o want v e := by
  induction h with
  | nil s => intro i hi; simp at hi
  | cons s s1 s' o ops want v e rs hg hd ho hn ht ih =>
    intro i hi
    cases i with
    | zero => exact ⟨o, want, v, e, by simp, by simp, hg, hd, ho⟩
    | succ i =>
      obtain ⟨o', want', v', e', h1, h2, h3, h4, h5⟩ := ih i (by simpa using hi)
      exact ⟨o', want', v', e', by simpa using h1, by simpa using h2, by rw [FL_shift, ← hn.f]; exact h3, h4, by rw [FL_shift, ← hn.f]; exact h5⟩
theorem lex_end {s s' : ASt} {ops : List Oper} {rs : List (AR × Eff)} (h : Lex P n all s ops rs s') : s'.f = FL s.f ops rs allL ops.length := by
  induction h with
  | nil s => rfl
  | cons s s1 s' o ops want v e rs hg hd ho hn ht ih => rw [List.length_cons, FL_shift, ← hn.f]; exact ih
theorem evs_congr {f g : Operand → Option AR} : ∀ {xs : List Operand}, (∀ x ∈ xs, f x = g x) → evs f xs = evs g xs
  | [], _ => rfl
  | x :: xs, h => by simp only [evs]; rw [h x (by simp), evs_congr fun y hy => h y (by simp [hy])]
theorem ev_congr {F F' : FSt} {o : Oper} (ht : ∀ t, t ∈ slotsOf o → F'.tm t = F.tm t) {x : Operand} (hx : x ∈ o.op.operands.toList) : F'.ev x = F.ev x := by
  cases x with
  | tmp t => exact ht t (List.mem_filterMap.2 ⟨.tmp t, hx, rfl⟩)
  | const v => rfl
  | global g => rfl
  | func f => rfl
/-- What an operation does hangs on what it meets. -/
theorem OpOk.frame {F F' : FSt} {o : Oper} {v : AR} {e : Eff} (h : OpOk P F o v e) (ht : ∀ t, t ∈ slotsOf o → F'.tm t = F.tm t) (hb : ∀ j, e.box = some j → (¬ ∃ k, isAl e k) → F'.bx j = F.bx j) (hu : ∀ j, isAl e j → ¬ F'.us j) : OpOk P F' o v e := by
  cases h with
  | quiet v h =>
    refine .quiet v fun G β w U ρ hG hcst hρ => h G β w U ρ hG hcst fun x r hx hr => hρ x r hx ?_
    rw [ev_congr ht hx]; exact hr
  | load ty x j off m row t bs cs ho hx hbb hr hty =>
    refine .load ty x j off m row t bs cs ho ?_ ?_ hr hty
    · rw [ev_congr ht (by rw [ho]; simp [Op.operands])]; exact hx
    · rw [hb j rfl (fun ⟨_, _, _, h⟩ => by cases h)]; exact hbb
  | alloc ty id zs ho hz hid => exact .alloc ty id zs ho hz (hu id ⟨_, _, rfl⟩)
  | box ty x id row cs ho hx hone hk hid =>
    refine .box ty x id row cs ho ?_ hone hk (hu id ⟨_, _, rfl⟩)
    rw [ev_congr ht (by rw [ho]; simp [Op.operands])]; exact hx
  | mk ty e l c id len cap zs ho hl hc hz hle hid =>
    refine .mk ty e l c id len cap zs ho ?_ ?_ hz hle (hu id ⟨_, _, rfl⟩)
    · rw [ev_congr ht (by rw [ho]; simp [Op.operands])]; exact hl
    · rw [ev_congr ht (by rw [ho]; simp [Op.operands])]; exact hc
  | app t e i x y j len cap m bs cs r hn ho hx hy hbb hu' hi hm hroom hr hk =>
    refine .app t e i x y j len cap m bs cs r hn ho ?_ ?_ ?_ hu' hi hm hroom hr hk
    · rw [ev_congr ht (by rw [ho]; simp [Op.operands, Call.operands])]; exact hx
    · rw [ev_congr ht (by rw [ho]; simp [Op.operands, Call.operands])]; exact hy
    · rw [hb j rfl (fun ⟨_, _, _, h⟩ => by cases h)]; exact hbb
  | store ty x y j off m row t bs cs r ho hx hbb hy hn hr hk hty =>
    refine .store ty x y j off m row t bs cs r ho ?_ ?_ ?_ hn hr hk hty
    · rw [ev_congr ht (by rw [ho]; simp [Op.operands])]; exact hx
    · rw [hb j rfl (fun ⟨_, _, _, h⟩ => by cases h)]; exact hbb
    · rw [ev_congr ht (by rw [ho]; simp [Op.operands])]; exact hy
  | call f xs ats ars res ho ha hc =>
    refine .call f xs ats ars v ho ?_ hc
    rw [← ha]
    refine evs_congr fun x hx => ev_congr ht ?_
    rw [ho]
    simp only [Op.operands, Call.operands, Array.toList_append, List.mem_append]
    exact .inr hx
  | callc x f p xs ats ars cs res ho hx hp ha hc =>
    refine .callc x f p xs ats ars cs v ho ?_ hp ?_ hc
    · rw [ev_congr ht (by rw [ho]; simp [Op.operands, Call.operands])]; exact hx
    · rw [← ha]
      refine evs_congr fun x hx => ev_congr ht ?_
      rw [ho]
      simp only [Op.operands, Call.operands, Array.toList_append, List.mem_append]
      exact .inr hx
theorem Does.frame {F F' : FSt} {o : Oper} {want : Bool} {v : AR} {e : Eff} (h : Does P F o want v e) (ht : ∀ t, t ∈ slotsOf o → F'.tm t = F.tm t) (hb : ∀ j, e.box = some j → (¬ ∃ k, isAl e k) → F'.bx j = F.bx j) (hu : ∀ j, isAl e j → ¬ F'.us j) : Does P F' o want v e := by
  rcases h with ⟨h1, h⟩ | h
  · exact .inl ⟨h1, h.frame ht hb hu⟩
  · exact .inr h
theorem GOk.frame {F F' : FSt} {o : Oper} {want : Bool} (h : GOk all F.tm o.guard want) (ht : ∀ t, t ∈ gSlot all o → F'.tm t = F.tm t) : GOk all F'.tm o.guard want := by
  unfold gSlot at ht
  generalize o.guard = g at *
  cases h with
  | none => exact .none
  | some j b d t want hd htm hw =>
    refine .some j b d t want hd ?_ hw
    rw [ht d (by simp [hd])]
    exact htm
  | und j b d hd htm =>
    refine .und j b d hd ?_
    rw [ht d (by simp [hd])]
    exact htm
theorem Does.alloc {F : FSt} {o : Oper} {want : Bool} {v : AR} {id : Nat} {t : TypeId} {cs : List AC} (h : Does P F o want v (.al id t cs)) : ¬ F.us id := by
  rcases h with ⟨_, h⟩ | ⟨_, _, h⟩
  · cases h with
    | alloc ty id zs ho hz hidn => exact hidn
    | box ty x id row cs ho hx hone hk hidn => exact hidn
    | mk ty e l c id len cap zs ho hl hc hz hle hidn => exact hidn
  · cases h
/-- By an invariant: what is listed; operations that are let be too. -/
theorem wp_region_inv' {Q : Exit → Act → World → Prop} {id : Nat} {l : List Oper} (J : (Nat → Bool) → Act → World → Prop) {a : Act} {w : World} (hm : P.follows .mixedOrders = true)
    (hB : invB l.toArray l.length = true) (h0 : J (fun _ => false) a (w.drewN 1))
    (hstep : ∀ i o L a1 w, i < l.length → nthOp l i = some o → L i = false → (∀ j, (waits .any l.toArray i).contains j = true → L j = true) → J L a1 w → ∀ K : Act → World → Prop, (∀ a' w', J (upd L i) a' w' → K a' w') → if Region.wanted o (yielded l.toArray a1.tmps) = true then o.wp P a1 w K noWay else K (a1.put o.dst undef) w)
    (htail : ∀ L a1 w, (∀ i, i < l.length → L i = true) → J L a1 w → Q .normal a1 w) : (Code.region id l.toArray true).wp P Q a w := by
  simp only [invB, Bool.and_eq_true, decide_eq_true_eq] at hB
  obtain ⟨⟨⟨htb, he⟩, hc⟩, hk⟩ := hB
  have hz : ∀ i, (Array.replicate l.toArray.size false).getD i false = false := fun i => by
    rw [Array.getD_eq_getD_getElem?, Array.getElem?_replicate]; split <;> rfl
  have hall : ∀ k, unl (Array.replicate l.toArray.size false) k = k := by
    intro k
    induction k with
    | zero => rfl
    | succ k ih => simp only [unl, ih, hz]; simp
  refine wp_region_any hm ?_
  have h1 := wpAny_inv (P := P) (Q := Q) (J := J) [] (fun j => by simp) (by simp) hk htb he hc (fun i o L a w hik ho hL hw hJ => ?_) htail l.length (Array.replicate l.toArray.size false) a (w.drewN 1) (hall l.length)
    (fun j o _ hl => by rw [hz] at hl; cases hl) (by simp) (fun i _ => hz i) (by
      have e : (fun j => (Array.replicate l.toArray.size false).getD j false) = fun _ => false := funext hz
      rw [e]; exact h0)
  · rw [show l.length + (l.toArray.size - l.length) = l.toArray.size by simp] at h1
    exact h1
  · have hs := hstep i o L a w hik (by rw [nthOp_eq]; simpa using ho) hL (fun j hj => hw j (by simpa using hj)) hJ _ (fun a' w' h => h)
    unfold lOp
    simp only [ho]
    exact hs
theorem masks_len_aux : ∀ (ws : List (List Nat)) (acc : List Nat), (ws.foldl (fun acc l => acc ++ [l.foldl (fun m j => m ||| (1 <<< j) ||| acc.getD j 0) 0]) acc).length = acc.length + ws.length
  | [], acc => by simp
  | l :: ws, acc => by
    rw [List.foldl_cons, masks_len_aux ws]
    simp; omega
theorem masks_len (ws : List (List Nat)) : (masks ws).length = ws.length := by
  unfold masks
  rw [masks_len_aux]
  simp
abbrev Wa (ops : List Oper) : Nat → List Nat := fun i => waits .any ops.toArray i
theorem waitsL_get {ops : List Oper} {x : Nat} {l : List Nat} (h : (waitsL ops)[x]? = some l) : l = Wa ops x := by
  unfold waitsL at h
  rw [List.getElem?_map] at h
  cases ho : ops[x]? with
  | none => simp [ho] at h
  | some o =>
    simp only [ho, Option.map_some, Option.some.injEq] at h
    subst h
    have ho2 : ops.toArray[x]? = some o := by simpa using ho
    unfold Wa waits
    rw [ho2]
theorem masks_Anc {ops : List Oper} {j k : Nat} (h : ((masks (waitsL ops)).getD j 0).testBit k = true) : Anc (Wa ops) j k := by
  refine masks_anc (W := Wa ops) (waitsL ops) [] (fun x l hl y hy => ?_) (fun j k h => by simp at h) j k h
  rw [waitsL_get hl] at hy
  simpa using hy
theorem clash_anc {ops : List Oper} {rs : List (AR × Eff)} (hl : rs.length = ops.length) (ho : ordAll (((ops.zipWith (footOf ops) rs).zip (masks (waitsL ops))).reverse) = true)
    {i k : Nat} {oi ok : Oper} {ri rk : AR × Eff} (hi : ops[i]? = some oi) (hk : ops[k]? = some ok) (hri : rs[i]? = some ri) (hrk : rs[k]? = some rk) (hki : k < i) (hc : clash (footOf ops oi ri) (footOf ops ok rk) = true) : Anc (Wa ops) i k := by
  have hil : i < ops.length := (List.getElem?_eq_some_iff.1 hi).1
  have hml : (masks (waitsL ops)).length = ops.length := by rw [masks_len]; simp [waitsL]
  obtain ⟨l, hle⟩ : ∃ l, (ops.zipWith (footOf ops) rs).zip (masks (waitsL ops)) = l := ⟨_, rfl⟩
  have hget : ∀ x ox rx, ops[x]? = some ox → rs[x]? = some rx → l[x]? = some (footOf ops ox rx, (masks (waitsL ops)).getD x 0) := by
    intro x ox rx hx hrx
    have hxl : x < ops.length := (List.getElem?_eq_some_iff.1 hx).1
    rw [← hle, List.getElem?_zip_eq_some]
    refine ⟨?_, ?_⟩
    · simp only [List.getElem?_zipWith, hx, hrx]
    · rw [List.getD_eq_getElem?_getD, List.getElem?_eq_getElem (by omega)]; rfl
  have hll : l.length = ops.length := by rw [← hle]; simp [hml, hl]
  rw [hle] at ho
  have hsplit : l.reverse.reverse = l.take i ++ (footOf ops oi ri, (masks (waitsL ops)).getD i 0) :: l.drop (i + 1) := by
    rw [List.reverse_reverse]
    have h1 := hget i oi ri hi hri
    have h2 := List.getElem?_eq_some_iff.1 h1
    rw [← h2.2]
    simp
  have := ordAll_get ho (l.take i) _ _ _ hsplit k (footOf ops ok rk) ((masks (waitsL ops)).getD k 0) (by rw [List.getElem?_take, if_pos hki]; exact hget k ok rk hk hrk) hc
  exact masks_Anc this
theorem clash_symm (a b : Foot) : clash a b = clash b a := by
  unfold clash
  have e : sameO a.dst b.dst = sameO b.dst a.dst := by
    cases a.dst <;> cases b.dst <;> simp [sameO]
    rename_i x y
    rw [Bool.eq_iff_iff]
    constructor
    · intro h; rw [Nat.eq_of_beq_eq_true h]; exact Nat.beq_refl _
    · intro h; rw [Nat.eq_of_beq_eq_true h]; exact Nat.beq_refl _
  rw [e]
  cases hits a.dst b.reads <;> cases hits b.dst a.reads <;> cases sameO b.dst a.dst <;> cases sameO a.out b.box <;> cases sameO b.out a.box <;> rfl
def ClosedL (ops : List Oper) (L : Nat → Bool) : Prop := ∀ i k, L i = true → k ∈ Wa ops i → L k = true
theorem closed_anc {ops : List Oper} {L : Nat → Bool} (h : ClosedL ops L) {i k : Nat} (ha : Anc (Wa ops) i k) : L i = true → L k = true := by
  induction ha with
  | one hk => exact fun hi => h _ _ hi hk
  | far hj _ ih => exact fun hi => ih (h _ _ hi hj)
theorem ready_anc {ops : List Oper} {L : Nat → Bool} (h : ClosedL ops L) {i k : Nat} (hw : ∀ j, j ∈ Wa ops i → L j = true) (ha : Anc (Wa ops) i k) : L k = true := by
  cases ha with
  | one hk => exact hw _ hk
  | far hj h' => exact closed_anc h h' (hw _ hj)
/-- **A REGION IN WHATEVER ORDER** comes to what it comes to in the order of its text. -/
theorem region_any {G0 : Nat → Prop} {w0 : World} {s s' : ASt} {ops : List Oper} {rs : List (AR × Eff)} {id : Nat} {Q : Exit → Act → World → Prop} (hm : P.follows .mixedOrders = true) (hl : Lex P n ops s ops rs s') (hord : ordB ops rs = true)
    (hQ : ∀ a w, Ok n G0 w0 s' a w → Q .normal a w) (a : Act) (w : World) (h : Ok n G0 w0 s a w) : (Code.region id ops.toArray true).wp P Q a w := by
  obtain ⟨β, h⟩ := h
  simp only [ordB, Bool.and_eq_true] at hord
  obtain ⟨hB, hord⟩ := hord
  have hlen := lex_len hl
  have hget := lex_get hl
  have hres : ∀ i v e, rs[i]? = some (v, e) → resOf rs i = (v, e) := fun i v e h => by simp [resOf, List.getD_eq_getElem?_getD, h]
  have hdst : ∀ i o, ops[i]? = some o → dstOf ops i = o.dst := fun i o h => by simp [dstOf, h]
  refine wp_region_inv' (fun L a w => ClosedL ops L ∧ ∃ β, OkB n G0 w0 (FL s.f ops rs L ops.length) β a w) hm hB ?_ ?_ ?_
  · refine ⟨fun i k hi => by simp at hi, β, ?_⟩
    have e : FL s.f ops rs (fun _ => false) ops.length = s.f := by
      have : ∀ m, FL s.f ops rs (fun _ => false) m = s.f := by
        intro m
        induction m with
        | zero => rfl
        | succ m ih => simp [FL, ih]
      exact this _
    rw [e]
    exact h.still (below_drewN (Below.refl _ _) 1)
  · rintro i o L a1 W hi ho hLi hw ⟨hcl, β1, hJ⟩ K hK
    obtain ⟨o', want, v, e, h1, h2, h3, h4, h5⟩ := hget i hi
    have ho' : ops[i]? = some o := by rw [nthOp_eq] at ho; simpa using ho
    rw [h1] at ho'
    cases ho'
    have hw' : ∀ j, j ∈ Wa ops i → L j = true := fun j hj => hw j (by simpa using hj)
    -- who clashes with i
    have hord2 : ∀ k ok rk, ops[k]? = some ok → rs[k]? = some rk → k ≠ i → clash (footOf ops o (v, e)) (footOf ops ok rk) = true → (L k = true ↔ k < i) := by
      intro k ok rk hk hrk hne hc
      rcases Nat.lt_or_gt_of_ne hne with hlt | hgt
      · exact ⟨fun _ => hlt, fun _ => ready_anc hcl hw' (clash_anc hlen hord h1 hk h2 hrk hlt hc)⟩
      · refine ⟨fun hLk => ?_, fun hlt => by omega⟩
        have := closed_anc hcl (clash_anc hlen hord hk h1 hrk h2 hgt (by rw [clash_symm]; exact hc)) hLk
        rw [hLi] at this
        cases this
    have hrk : ∀ k ok, ops[k]? = some ok → ∃ rk, rs[k]? = some rk := fun k ok hk => by
      have : k < rs.length := by rw [hlen]; exact (List.getElem?_eq_some_iff.1 hk).1
      exact ⟨rs[k], List.getElem?_eq_getElem this⟩
    have hok : ∀ k, k < ops.length → ∃ ok rk, ops[k]? = some ok ∧ rs[k]? = some rk := fun k hk => by
      obtain ⟨rk, hr⟩ := hrk k ops[k] (List.getElem?_eq_getElem hk)
      exact ⟨_, rk, List.getElem?_eq_getElem hk, hr⟩
    -- writers of i's slots and box
    have wt : ∀ t, (t ∈ gSlot ops o ++ slotsOf o ∨ o.dst = some t) → ∀ k, k < ops.length → k ≠ i → dstOf ops k = some t → (L k = true ↔ k < i) := by
      intro t ht k hk hne hd
      obtain ⟨ok, rk, hk1, hk2⟩ := hok k hk
      rw [hdst k ok hk1] at hd
      refine hord2 k ok rk hk1 hk2 hne ?_
      rcases ht with ht | ht
      · have : hits ok.dst (gSlot ops o ++ slotsOf o) = true := by rw [hd]; exact memB_iff.2 ht
        simp [clash, footOf, this]
      · have : sameO o.dst ok.dst = true := by rw [hd, ht]; exact Nat.beq_refl _
        simp [clash, footOf, this]
    have wb : ∀ j, e.box = some j → ∀ k, k < ops.length → k ≠ i → (resOf rs k).2.out = some j → (L k = true ↔ k < i) := by
      intro j hj k hk hne hd
      obtain ⟨ok, rk, hk1, hk2⟩ := hok k hk
      rw [hres k rk.1 rk.2 hk2] at hd
      refine hord2 k ok rk hk1 hk2 hne ?_
      have : sameO rk.2.out e.box = true := by rw [hd, hj]; exact Nat.beq_refl _
      simp [clash, footOf, this]
    have hid : ∀ j, isAl e j → ∀ k, k < ops.length → k ≠ i → isAl (resOf rs k).2 j → False := by
      intro j hj k hk hne hk2
      obtain ⟨ok, rk, hk1, hk2'⟩ := hok k hk
      obtain ⟨o2, want2, v2, e2, g1, g2, g3, g4, g5⟩ := hget k hk
      have hek : isAl e2 j := by rw [hres k v2 e2 g2] at hk2; exact hk2
      rcases Nat.lt_or_gt_of_ne hne with hlt | hgt
      · obtain ⟨t, cs, rfl⟩ := hj
        refine h5.alloc ((FL_us i).2 (.inr ⟨k, hlt, rfl, ?_⟩))
        rw [hres k v2 e2 g2]; exact hek
      · obtain ⟨t, cs, rfl⟩ := hek
        refine g5.alloc ((FL_us k).2 (.inr ⟨i, hgt, rfl, ?_⟩))
        rw [hres i v e h2]; exact hj
    have htm : ∀ t, t ∈ gSlot ops o ++ slotsOf o → (FL s.f ops rs L ops.length).tm t = (FL s.f ops rs allL i).tm t := by
      intro t ht
      refine FL_tm_prefix _ (fun k hk hd => ?_) (by omega)
      by_cases e1 : k = i
      · subst e1; rw [hLi]; simp
      · exact wt t (.inl ht) k hk e1 hd
    have hgr : GOk ops (FL s.f ops rs L ops.length).tm o.guard want := h3.frame (F' := FL s.f ops rs L ops.length) fun t ht => htm t (List.mem_append.2 (.inl ht))
    have hfr : Does P (FL s.f ops rs L ops.length) o want v e := by
      refine h5.frame (fun t ht => htm t (List.mem_append.2 (.inr ht))) (fun j hj hna => ?_) (fun j hj hus => ?_)
      · refine FL_bx_prefix _ (fun k hk hd => ?_) (by omega)
        by_cases e1 : k = i
        · subst e1; rw [hLi]; simp
        · exact wb j hj k hk e1 hd
      · rcases (FL_us _).1 hus with h | ⟨k, hk, hLk, hk2⟩
        · obtain ⟨t, cs, rfl⟩ := hj
          exact h5.alloc ((FL_us i).2 (.inl h))
        · refine hid j hj k hk (fun e1 => ?_) hk2
          subst e1; rw [hLi] at hLk; cases hLk
    -- the next state
    have hnext : (FL s.f ops rs L ops.length).next o.dst v e = FL s.f ops rs (upd L i) ops.length := by
      refine FSt.ext' (fun t => ?_) (fun j => ?_) (fun j => ?_)
      · by_cases hd : o.dst = some t
        · have e1 : (FL s.f ops rs (upd L i) ops.length).tm t = (FL s.f ops rs allL (i + 1)).tm t := by
            refine FL_tm_prefix _ (fun k hk hdk => ?_) (by omega)
            by_cases e1 : k = i
            · subst e1; simp [upd_self]
            · rw [upd_ne e1, wt t (.inr hd) k hk e1 hdk]; omega
          rw [e1]
          simp only [FL, allL, if_true, hdst i o h1, hres i v e h2, FSt.next, hd]
        · rw [next_tm hd]
          refine FL_tm_congr _ fun k hk hdk => ?_
          have e1 : k ≠ i := fun e1 => hd (by subst e1; rw [hdst k o h1] at hdk; exact hdk)
          rw [upd_ne e1]
      · by_cases hd : e.out = some j
        · have e1 : (FL s.f ops rs (upd L i) ops.length).bx j = (FL s.f ops rs allL (i + 1)).bx j := by
            refine FL_bx_prefix _ (fun k hk hdk => ?_) (by omega)
            by_cases e1 : k = i
            · subst e1; simp [upd_self]
            · rw [upd_ne e1, wb j (Eff.out_box hd) k hk e1 hdk]; omega
          have e2 : (FL s.f ops rs L ops.length).bx j = (FL s.f ops rs allL i).bx j := by
            refine FL_bx_prefix _ (fun k hk hdk => ?_) (by omega)
            by_cases e1 : k = i
            · subst e1; rw [hLi]; simp
            · exact wb j (Eff.out_box hd) k hk e1 hdk
          rw [e1]
          simp only [FL, allL, if_true, hdst i o h1, hres i v e h2]
          exact next_bx_congr e2
        · rw [next_bx hd]
          refine FL_bx_congr _ fun k hk hdk => ?_
          have e1 : k ≠ i := fun e1 => hd (by subst e1; rw [hres k v e h2] at hdk; exact hdk)
          rw [upd_ne e1]
      · rw [next_us, FL_us, FL_us]
        constructor
        · rintro (h | h | ⟨k, hk, hLk, hk2⟩)
          · exact .inr ⟨i, hi, upd_self _ _, by rw [hres i v e h2]; exact h⟩
          · exact .inl h
          · exact .inr ⟨k, hk, by unfold upd; split <;> first | rfl | exact hLk, hk2⟩
        · rintro (h | ⟨k, hk, hLk, hk2⟩)
          · exact .inr (.inl h)
          · by_cases e1 : k = i
            · subst e1; rw [hres k v e h2] at hk2; exact .inl hk2
            · rw [upd_ne e1] at hLk; exact .inr (.inr ⟨k, hk, hLk, hk2⟩)
    rw [wanted_of hJ hgr]
    refine hJ.does h4 hfr fun β' a' w' h' => hK a' w' ⟨fun x y hx hy => ?_, β', by rw [← hnext]; exact h'⟩
    by_cases e1 : x = i
    · subst e1
      have := hw' y hy
      unfold upd; split <;> first | rfl | exact this
    · rw [upd_ne e1] at hx
      have := hcl x y hx hy
      unfold upd; split <;> first | rfl | exact this
  · rintro L a1 W hall ⟨hcl, β1, hJ⟩
    refine hQ a1 W ⟨β1, ?_⟩
    rw [lex_end hl]
    have e : FL s.f ops rs L ops.length = FL s.f ops rs allL ops.length := by
      refine FSt.ext' (fun t => FL_tm_congr _ fun k hk _ => hall k hk) (fun j => FL_bx_congr _ fun k hk _ => hall k hk) (fun j => ?_)
      rw [FL_us, FL_us]
      constructor
      · rintro (h | ⟨k, hk, _, h⟩)
        · exact .inl h
        · exact .inr ⟨k, hk, rfl, h⟩
      · rintro (h | ⟨k, hk, _, h⟩)
        · exact .inl h
        · exact .inr ⟨k, hk, hall k hk, h⟩
    rw [← e]
    exact hJ
end
end Go.Proofs.YtjbagikfogejnaaGreatDoor
/- An abstract machine: code, functions. -/
namespace Go.Proofs.YtjbagikfogejnaaGreatDoor
open Go.RowKit Go.Deep
section
variable {P : Program} {n : Nat} {G0 : Nat → Prop} {w0 : World}
/-! ### regions, step by step -/
theorem OpOk.unguard {F : FSt} {d : Option Nat} {op : Op} {ty : TypeId} {pos : String} {aft : Array Edge} {g : Option (Nat × Bool)} {v : AR} {e : Eff} (h : OpOk P F ⟨d, op, ty, pos, aft, none⟩ v e) : OpOk P F ⟨d, op, ty, pos, aft, g⟩ v e := by
  cases h with
  | quiet v h => exact .quiet v h
  | load ty x j off m row t bs cs ho hx hbb hr hty => exact .load ty x j off m row t bs cs ho hx hbb hr hty
  | alloc ty id zs ho hz hid => exact .alloc ty id zs ho hz hid
  | box ty x id row cs ho hx hone hk hid => exact .box ty x id row cs ho hx hone hk hid
  | store ty x y j off m row t bs cs r ho hx hbb hy hn hr hk hty => exact .store ty x y j off m row t bs cs r ho hx hbb hy hn hr hk hty
  | mk ty e l c id len cap zs ho hl hc hz hle hid => exact .mk ty e l c id len cap zs ho hl hc hz hle hid
  | app t e i x y j len cap m bs cs r hn ho hx hy hb hu hi hm hroom hr hk => exact .app t e i x y j len cap m bs cs r hn ho hx hy hb hu hi hm hroom hr hk
  | call f xs ats ars res ho ha hc => exact .call f xs ats ars v ho ha hc
  | callc x f p xs ats ars cs res ho hx hp ha hc => exact .callc x f p xs ats ars cs v ho hx hp ha hc
def AW (P : Program) (n : Nat) (all : List Oper) (draw : Bool) (acc : List (AR × Eff)) (s : ASt) (ops : List Oper) (K : ASt → Prop) : Prop :=
  ∃ rs s', Lex P n all s ops rs s' ∧ (draw = true → ordB all (acc.reverse ++ rs) = true) ∧ K s'
section
variable {all ops : List Oper} {draw : Bool} {acc : List (AR × Eff)} {s : ASt} {tm : List (Nat × AR)} {bx : List (Nat × TypeId × List AC)} {nb : Nat} {K : ASt → Prop}
theorem AW_nil (h : draw = true → ordB all acc.reverse = true) (hK : K s) : AW P n all draw acc s [] K := ⟨[], s, .nil s, by simpa using h, hK⟩
theorem AW_does {o : Oper} {want : Bool} {v : AR} {e : Eff} {s1 : ASt} (hg : GOk all s.f.tm o.guard want) (hd : ∀ d, o.dst = some d → d < n) (ho : Does P s.f o want v e) (hn : Nx s o.dst v e s1) (h : AW P n all draw ((v, e) :: acc) s1 ops K) : AW P n all draw acc s (o :: ops) K := by
  obtain ⟨rs, s', h1, h2, h3⟩ := h
  exact ⟨(v, e) :: rs, s', .cons s s1 s' o ops want v e rs hg hd ho hn h1, by simpa using h2, h3⟩
theorem AW_cons {o : Oper} {v : AR} {e : Eff} {s1 : ASt} (hg : o.guard = none) (hd : ∀ d, o.dst = some d → d < n) (ho : OpOk P s.f o v e) (hn : Nx s o.dst v e s1) (h : AW P n all draw ((v, e) :: acc) s1 ops K) : AW P n all draw acc s (o :: ops) K := by
  exact AW_does (want := true) (by rw [hg]; exact .none) hd (.inl ⟨rfl, ho⟩) hn h
/-- A guarded operation that is let be. -/
theorem AW_skip {d j gd : Nat} {b t : Bool} {op : Op} {ty : TypeId} {pos : String} {aft : Array Edge} (hgd : dstIn all j = some gd) (ht : look tm gd = some (.val (.one (.b t)))) (hb : (t == b) = false) (hd : Nat.blt d n = true)
    (h : AW P n all draw ((.val (.one .und), .no) :: acc) ⟨(d, .val (.one .und)) :: tm, bx, nb⟩ ops K) : AW P n all draw acc ⟨tm, bx, nb⟩ (⟨some d, op, ty, pos, aft, some (j, b)⟩ :: ops) K :=
  AW_does (want := false) (.some j b gd t false hgd ht hb.symm) (fun d' e => by cases e; simpa [Nat.blt_eq] using hd) (.inr ⟨rfl, rfl, rfl⟩) (.no _ rfl) h
theorem AW_skipu {d j gd : Nat} {b : Bool} {op : Op} {ty : TypeId} {pos : String} {aft : Array Edge} (hgd : dstIn all j = some gd) (ht : look tm gd = some (.val (.one .und))) (hd : Nat.blt d n = true)
    (h : AW P n all draw ((.val (.one .und), .no) :: acc) ⟨(d, .val (.one .und)) :: tm, bx, nb⟩ ops K) : AW P n all draw acc ⟨tm, bx, nb⟩ (⟨some d, op, ty, pos, aft, some (j, b)⟩ :: ops) K :=
  AW_does (want := false) (.und j b gd hgd ht) (fun d' e => by cases e; simpa [Nat.blt_eq] using hd) (.inr ⟨rfl, rfl, rfl⟩) (.no _ rfl) h
theorem AW_quiet {d : Nat} {op : Op} {ty : TypeId} {pos : String} {aft : Array Edge} {v : AR} (hd : Nat.blt d n = true) (hq : Quiet P ⟨some d, op, ty, pos, aft, none⟩ (ASt.ev ⟨tm, bx, nb⟩) v)
    (h : AW P n all draw ((v, .no) :: acc) ⟨(d, v) :: tm, bx, nb⟩ ops K) : AW P n all draw acc ⟨tm, bx, nb⟩ (⟨some d, op, ty, pos, aft, none⟩ :: ops) K :=
  AW_cons rfl (fun d' e => by cases e; simpa [Nat.blt_eq] using hd) (.quiet v hq) (.no _ rfl) h
theorem AW_load {d j off m : Nat} {lt : TypeId} {x : Operand} {ty : TypeId} {pos : String} {aft : Array Edge} {row : Bool} {t : TypeId} {bs cs : List AC} {v : AV} (hd : Nat.blt d n = true) (hty : TyI P lt m row)
    (hx : ASt.ev ⟨tm, bx, nb⟩ x = some (.val (.one (.ptr j off)))) (hb : look bx j = some (t, bs)) (hr : rdO bs off m = some cs) (hv : mkAV row cs = v)
    (h : AW P n all draw ((.val v, .rd j) :: acc) ⟨(d, .val v) :: tm, bx, nb⟩ ops K) : AW P n all draw acc ⟨tm, bx, nb⟩ (⟨some d, .load lt x, ty, pos, aft, none⟩ :: ops) K := by
  subst hv
  exact AW_cons rfl (fun d' e => by cases e; simpa [Nat.blt_eq] using hd) (.load lt x j off m row t bs cs rfl hx hb hr hty) (.rd j _ rfl) h
theorem AW_alloc {d : Nat} {et ty : TypeId} {pos : String} {aft : Array Edge} {zs : List AC} (hd : Nat.blt d n = true) (hz : TyZ P et zs)
    (h : AW P n all draw ((.val (.one (.ptr nb 0)), .al nb et zs) :: acc) ⟨(d, .val (.one (.ptr nb 0))) :: tm, (nb, et, zs) :: bx, nb + 1⟩ ops K) : AW P n all draw acc ⟨tm, bx, nb⟩ (⟨some d, .alloc et, ty, pos, aft, none⟩ :: ops) K :=
  AW_cons rfl (fun d' e => by cases e; simpa [Nat.blt_eq] using hd) (.alloc et nb zs rfl hz (Nat.lt_irrefl nb)) (.al et zs _ rfl) h
theorem AW_box {d : Nat} {et ty : TypeId} {x : Operand} {pos : String} {aft : Array Edge} {row : Bool} {cs : List AC} {v : AV} (hd : Nat.blt d n = true) (hx : ASt.ev ⟨tm, bx, nb⟩ x = some (.val v)) (hv : v = mkAV row cs) (hone : row = false → cs.length = 1) (hk : cs.all AC.keepable = true)
    (h : AW P n all draw ((.val (.one (.ptr nb 0)), .al nb et cs) :: acc) ⟨(d, .val (.one (.ptr nb 0))) :: tm, (nb, et, cs) :: bx, nb + 1⟩ ops K) : AW P n all draw acc ⟨tm, bx, nb⟩ (⟨some d, .box et x, ty, pos, aft, none⟩ :: ops) K := by
  subst hv
  exact AW_cons rfl (fun d' e => by cases e; simpa [Nat.blt_eq] using hd) (.box et x nb row cs rfl hx hone hk (Nat.lt_irrefl nb)) (.al et cs _ rfl) h
theorem AW_store {j off m : Nat} {st : TypeId} {x y : Operand} {ty : TypeId} {pos : String} {aft : Array Edge} {row : Bool} {t : TypeId} {bs cs r : List AC} {v : AV} (hty : TyI P st m row)
    (hx : ASt.ev ⟨tm, bx, nb⟩ x = some (.val (.one (.ptr j off)))) (hb : look bx j = some (t, bs)) (hy : ASt.ev ⟨tm, bx, nb⟩ y = some (.val v)) (hv : v = mkAV row cs) (hn : cs.length = m) (hr : layO bs off cs = some r) (hk : cs.all AC.keepable = true)
    (h : AW P n all draw ((.val (.one .any), .wr j off cs) :: acc) ⟨tm, (j, t, r) :: bx, nb⟩ ops K) : AW P n all draw acc ⟨tm, bx, nb⟩ (⟨none, .store st x y, ty, pos, aft, none⟩ :: ops) K := by
  subst hv
  exact AW_cons rfl (fun d' e => by cases e) (.store st x y j off m row t bs cs r rfl hx hb hy hn hr hk hty) (.wr j off t bs cs r _ rfl hb hr) h
theorem AW_call {d : Nat} {f : FuncId} {xs : Array Operand} {ats : Array TypeId} {ty : TypeId} {pos : String} {aft : Array Edge} {ars : List AR} {res : AR} (hd : Nat.blt d n = true)
    (ha : evs (ASt.ev ⟨tm, bx, nb⟩) xs.toList = some ars) (hc : Ct P f ars res) (h : AW P n all draw ((res, .no) :: acc) ⟨(d, res) :: tm, bx, nb⟩ ops K) :
    AW P n all draw acc ⟨tm, bx, nb⟩ (⟨some d, .call { callee := .value (.func f), args := xs, argTypes := ats }, ty, pos, aft, none⟩ :: ops) K :=
  AW_cons rfl (fun d' e => by cases e; simpa [Nat.blt_eq] using hd) (.call f xs ats ars res rfl ha hc) (.no _ rfl) h
theorem AW_callc {d : Nat} {x : Operand} {f : FuncId} {p : Pred} {xs : Array Operand} {ats : Array TypeId} {ty : TypeId} {pos : String} {aft : Array Edge} {ars cs : List AR} {res : AR} (hd : Nat.blt d n = true) (hx : ASt.ev ⟨tm, bx, nb⟩ x = some (.val (.one (.st p))))
    (hp : ∀ G w v, p.is G w v → ∃ vs : List Value, v = .func (.func f) #[] vs.toArray ∧ ∀ β, oksR G β w cs vs) (ha : evs (ASt.ev ⟨tm, bx, nb⟩) xs.toList = some ars) (hc : Ct P f (ars ++ cs) res) (h : AW P n all draw ((res, .no) :: acc) ⟨(d, res) :: tm, bx, nb⟩ ops K) :
    AW P n all draw acc ⟨tm, bx, nb⟩ (⟨some d, .call { callee := .value x, args := xs, argTypes := ats }, ty, pos, aft, none⟩ :: ops) K :=
  AW_cons rfl (fun d' e => by cases e; simpa [Nat.blt_eq] using hd) (.callc x f p xs ats ars cs res rfl hx hp ha hc) (.no _ rfl) h
/-- Guarded operations that are done. -/
theorem AW_gdo {d j gd : Nat} {b t : Bool} {op : Op} {ty : TypeId} {pos : String} {aft : Array Edge} {v : AR} {e : Eff} {s1 : ASt} (hgd : dstIn all j = some gd) (ht : look tm gd = some (.val (.one (.b t)))) (hb : (t == b) = true)
    (hd : Nat.blt d n = true) (ho : OpOk P (ASt.f ⟨tm, bx, nb⟩) ⟨some d, op, ty, pos, aft, none⟩ v e) (hn : Nx ⟨tm, bx, nb⟩ (some d) v e s1) (hk : AW P n all draw ((v, e) :: acc) s1 ops K) : AW P n all draw acc ⟨tm, bx, nb⟩ (⟨some d, op, ty, pos, aft, some (j, b)⟩ :: ops) K :=
  AW_does (o := ⟨some d, op, ty, pos, aft, some (j, b)⟩) (want := true) (GOk.some (tm := (ASt.f ⟨tm, bx, nb⟩).tm) j b gd t true hgd ht hb.symm) (fun d' e => by cases e; simpa [Nat.blt_eq] using hd) (.inl ⟨rfl, ho.unguard⟩) hn hk
theorem AW_quietg {d j gd : Nat} {b t : Bool} {op : Op} {ty : TypeId} {pos : String} {aft : Array Edge} {v : AR} (hgd : dstIn all j = some gd) (ht : look tm gd = some (.val (.one (.b t)))) (hb : (t == b) = true) (hd : Nat.blt d n = true)
    (hq : Quiet P ⟨some d, op, ty, pos, aft, none⟩ (ASt.ev ⟨tm, bx, nb⟩) v) (h : AW P n all draw ((v, .no) :: acc) ⟨(d, v) :: tm, bx, nb⟩ ops K) : AW P n all draw acc ⟨tm, bx, nb⟩ (⟨some d, op, ty, pos, aft, some (j, b)⟩ :: ops) K :=
  AW_gdo hgd ht hb hd (.quiet v hq) (.no _ rfl) h
theorem AW_loadg {d j' gd : Nat} {b t' : Bool} {j off m : Nat} {lt : TypeId} {x : Operand} {ty : TypeId} {pos : String} {aft : Array Edge} {row : Bool} {t : TypeId} {bs cs : List AC} {v : AV} (hgd : dstIn all j' = some gd) (ht : look tm gd = some (.val (.one (.b t')))) (hb' : (t' == b) = true) (hd : Nat.blt d n = true) (hty : TyI P lt m row)
    (hx : ASt.ev ⟨tm, bx, nb⟩ x = some (.val (.one (.ptr j off)))) (hb : look bx j = some (t, bs)) (hr : rdO bs off m = some cs) (hv : mkAV row cs = v)
    (h : AW P n all draw ((.val v, .rd j) :: acc) ⟨(d, .val v) :: tm, bx, nb⟩ ops K) : AW P n all draw acc ⟨tm, bx, nb⟩ (⟨some d, .load lt x, ty, pos, aft, some (j', b)⟩ :: ops) K := by
  subst hv
  exact AW_gdo hgd ht hb' hd (.load lt x j off m row t bs cs rfl hx hb hr hty) (.rd j _ rfl) h
theorem AW_callg {d j gd : Nat} {b t : Bool} {f : FuncId} {xs : Array Operand} {ats : Array TypeId} {ty : TypeId} {pos : String} {aft : Array Edge} {ars : List AR} {res : AR} (hgd : dstIn all j = some gd) (ht : look tm gd = some (.val (.one (.b t)))) (hb : (t == b) = true) (hd : Nat.blt d n = true)
    (ha : evs (ASt.ev ⟨tm, bx, nb⟩) xs.toList = some ars) (hc : Ct P f ars res) (h : AW P n all draw ((res, .no) :: acc) ⟨(d, res) :: tm, bx, nb⟩ ops K) :
    AW P n all draw acc ⟨tm, bx, nb⟩ (⟨some d, .call { callee := .value (.func f), args := xs, argTypes := ats }, ty, pos, aft, some (j, b)⟩ :: ops) K :=
  AW_gdo hgd ht hb hd (.call f xs ats ars res rfl ha hc) (.no _ rfl) h
end
/-! ### code -/
def Wp (P : Program) (n : Nat) (G0 : Nat → Prop) (w0 : World) (s : ASt) (c : Code) (Q : Exit → ASt → Prop) : Prop :=
  ∀ a w, Ok n G0 w0 s a w → c.wp P (fun e a w => ∃ s', Ok n G0 w0 s' a w ∧ Q e s') a w
def AThen (K : ASt → Prop) (Q : Exit → ASt → Prop) : Exit → ASt → Prop
  | .normal, s => K s
  | e, s => Q e s
def ABlk (id : Nat) (Q : Exit → ASt → Prop) : Exit → ASt → Prop
  | .exit i, s => bif Nat.beq i id then Q .normal s else Q (.exit i) s
  | e, s => Q e s
def Le (s s' : ASt) : Prop := ∀ (n : Nat) (G0 : Nat → Prop) (w0 : World) (a : Act) (w : World), Ok n G0 w0 s a w → Ok n G0 w0 s' a w
section
variable {s : ASt} {Q : Exit → ASt → Prop}
theorem Wp_seq {x y : Code} (h : Wp P n G0 w0 s x (AThen (fun s' => Wp P n G0 w0 s' y Q) Q)) : Wp P n G0 w0 s (.seq x y) Q := by
  intro a w hs
  refine wp_seq (wp_mono (h a w hs) ?_)
  rintro e a' w' ⟨s', h1, h2⟩
  cases e with
  | normal => exact h2 a' w' h1
  | exit id => exact ⟨s', h1, h2⟩
  | goto l => exact ⟨s', h1, h2⟩
  | ret => exact ⟨s', h1, h2⟩
  | panic ch => exact ⟨s', h1, h2⟩
  | outgrown => exact ⟨s', h1, h2⟩
theorem Wp_skip (h : Q .normal s) : Wp P n G0 w0 s .skip Q := fun _ _ hs => wp_skip ⟨s, hs, h⟩
theorem Wp_exit {id : Nat} (h : Q (.exit id) s) : Wp P n G0 w0 s (.exit id) Q := fun _ _ hs => wp_exit ⟨s, hs, h⟩
theorem Wp_ret (h : Q .ret s) : Wp P n G0 w0 s .ret Q := fun _ _ hs => wp_ret ⟨s, hs, h⟩
theorem Wp_block {id : Nat} {c : Code} (h : Wp P n G0 w0 s c (ABlk id Q)) : Wp P n G0 w0 s (.block id c) Q := by
  intro a w hs
  refine wp_block (wp_mono (h a w hs) ?_)
  rintro e a' w' ⟨s', h1, h2⟩
  cases e with
  | exit i =>
    simp only [Exit.inBlock, ABlk] at h2 ⊢
    by_cases e : i = id
    · subst e
      rw [if_pos rfl]
      simp at h2
      exact ⟨s', h1, h2⟩
    · rw [if_neg e]
      have : Nat.beq i id = false := by rw [Bool.eq_false_iff]; exact fun h => e (Nat.eq_of_beq_eq_true h)
      rw [this] at h2
      exact ⟨s', h1, h2⟩
  | normal => exact ⟨s', h1, h2⟩
  | goto l => exact ⟨s', h1, h2⟩
  | ret => exact ⟨s', h1, h2⟩
  | panic ch => exact ⟨s', h1, h2⟩
  | outgrown => exact ⟨s', h1, h2⟩
theorem Wp_cond {c : Operand} {x y : Code} {t : Bool} (hc : s.ev c = some (.val (.one (.b t)))) (h1 : t = true → Wp P n G0 w0 s x Q) (h2 : t = false → Wp P n G0 w0 s y Q) : Wp P n G0 w0 s (.cond c x y) Q := by
  intro a w hs
  obtain ⟨β, hb⟩ := hs
  have he := (hb.ev hc).2
  simp only [AR.ok, AV.ok, AC.ok] at he
  exact wp_cond_split he (fun e => h1 e a w ⟨β, hb⟩) (fun e => h2 e a w ⟨β, hb⟩)
theorem Wp_condT {c : Operand} {x y : Code} (hc : s.ev c = some (.val (.one (.b true)))) (h1 : Wp P n G0 w0 s x Q) : Wp P n G0 w0 s (.cond c x y) Q := Wp_cond hc (fun _ => h1) (fun h => by cases h)
theorem Wp_condF {c : Operand} {x y : Code} (hc : s.ev c = some (.val (.one (.b false)))) (h1 : Wp P n G0 w0 s y Q) : Wp P n G0 w0 s (.cond c x y) Q := Wp_cond hc (fun h => by cases h) (fun _ => h1)
theorem Wp_region {id : Nat} {ops : List Oper} {draw : Bool} (hm : P.follows .mixedOrders = true) (h : AW P n ops draw [] s ops (fun s' => Q .normal s')) : Wp P n G0 w0 s (.region id ops.toArray draw) Q := by
  obtain ⟨rs, s', h1, h2, h3⟩ := h
  intro a w hs
  cases draw with
  | false => exact wp_region_lit (wpList_lex h1 (fun a w h => ⟨s', h, h3⟩) a w hs)
  | true => exact region_any hm h1 (by simpa using h2 rfl) (fun a w h => ⟨s', h, h3⟩) a w hs
theorem Wp_le {s' : ASt} {c : Code} (hl : Le s s') (h : Wp P n G0 w0 s' c Q) : Wp P n G0 w0 s c Q := fun a w hs => h a w (hl _ _ _ _ _ hs)
theorem Wp_mono {c : Code} {Q' : Exit → ASt → Prop} (h : Wp P n G0 w0 s c Q') (hq : ∀ e s', Q' e s' → Q e s') : Wp P n G0 w0 s c Q := fun a w hs =>
  wp_mono (h a w hs) fun e _ _ ⟨s', h1, h2⟩ => ⟨s', h1, hq e s' h2⟩
theorem Wp_to {K : ASt → Prop} {c : Code} (J : ASt → Prop) (h1 : Wp P n G0 w0 s c (AThen J Q)) (h2 : ∀ s', J s' → K s') : Wp P n G0 w0 s c (AThen K Q) :=
  Wp_mono h1 fun e s' h => by cases e <;> first | exact h2 s' h | exact h
theorem Wp_loop {α : Type} {c : Code} (I : α → ASt) (pre : α → Prop) (μ : α → Nat) (x0 : α) (hp : pre x0) (h0 : Le s (I x0))
    (round : ∀ x, pre x → Wp P n G0 w0 (I x) c (AThen (fun s' => ∃ y, pre y ∧ Le s' (I y) ∧ μ y < μ x) Q)) : Wp P n G0 w0 s (.loop c) Q := by
  intro a w hs
  refine wp_loop_ghost (fun k a w => ∃ x, pre x ∧ μ x = k ∧ Ok n G0 w0 (I x) a w) (μ x0) ⟨x0, hp, rfl, h0 _ _ _ _ _ hs⟩ ?_
  rintro k a w ⟨x, hx, rfl, hok⟩
  refine wp_mono (round x hx a w hok) ?_
  rintro e a' w' ⟨s', h1, h2⟩
  cases e with
  | normal =>
    obtain ⟨y, hy, hle, hlt⟩ := h2
    exact ⟨μ y, hlt, y, hy, rfl, hle _ _ _ _ _ h1⟩
  | exit id => exact ⟨s', h1, h2⟩
  | goto l => exact ⟨s', h1, h2⟩
  | ret => exact ⟨s', h1, h2⟩
  | panic ch => exact ⟨s', h1, h2⟩
  | outgrown => exact ⟨s', h1, h2⟩
end
/-! ### knowing less -/
def LeT {α : Type} (tm : List (Nat × α)) : List (Nat × α) → Prop
  | [] => True
  | (t, r) :: rest => look tm t = some r ∧ LeT tm rest
def AC.lowB (nb : Nat) : AC → Bool
  | .ptr j _ => Nat.blt j nb
  | .sl j _ _ _ => Nat.blt j nb
  | _ => true
def AV.lowB (nb : Nat) : AV → Bool
  | .one c => c.lowB nb
  | .agg cs => cs.all (AC.lowB nb)
def AR.lowB (nb : Nat) : AR → Bool
  | .val x => x.lowB nb
  | .tup l => l.all (AV.lowB nb)
def ASt.lowB (s : ASt) : Bool := (s.tm.all fun p => p.2.lowB s.nb) && s.bx.all fun p => Nat.blt p.1 s.nb && p.2.2.all (AC.lowB s.nb)
theorem AC.low_of {nb : Nat} {c : AC} (h : c.lowB nb = true) : c.low (fun j => j < nb) := by
  cases c <;> first | trivial | (simpa [AC.lowB, AC.low, Nat.blt_eq] using h)
theorem AV.low_of {nb : Nat} {c : AV} (h : c.lowB nb = true) : c.low (fun j => j < nb) := by
  cases c with
  | one c => exact AC.low_of h
  | agg cs => exact fun c hc => AC.low_of (List.all_eq_true.1 h c hc)
theorem AR.low_of {nb : Nat} {c : AR} (h : c.lowB nb = true) : c.low (fun j => j < nb) := by
  cases c with
  | val c => exact AV.low_of h
  | tup cs => exact fun c hc => AV.low_of (List.all_eq_true.1 h c hc)
theorem look_mem {α : Type} {t : Nat} {r : α} : ∀ {l : List (Nat × α)}, look l t = some r → (t, r) ∈ l
  | [], h => by simp [look] at h
  | (k, v) :: l, h => by
    rw [look_cons] at h
    split at h
    · rename_i e; cases h; subst e; simp
    · exact List.mem_cons_of_mem _ (look_mem h)
theorem leT_get {α : Type} {tm : List (Nat × α)} : ∀ {l : List (Nat × α)}, LeT tm l → ∀ t r, look l t = some r → look tm t = some r
  | [], _, t, r, h => by simp [look] at h
  | (k, v) :: l, hl, t, r, h => by
    rw [look_cons] at h
    split at h
    · rename_i e; cases h; subst e; exact hl.1
    · exact leT_get hl.2 t r h
theorem le_of {s s' : ASt} (ht : LeT s.tm s'.tm) (hb : LeT s.bx s'.bx) (hl : s'.lowB = true) : Le s s' := by
  rintro n G0 w0 a w ⟨β, h⟩
  simp only [ASt.lowB, Bool.and_eq_true] at hl
  have hsub : ∀ j, (look s'.bx j).isSome = true → (look s.bx j).isSome = true := by
    intro j hj
    obtain ⟨p, hp⟩ := Option.isSome_iff_exists.1 hj
    rw [leT_get hb j p hp]; rfl
  have hG : ∀ g, Gs G0 s'.f.bx β g → Gs G0 s.f.bx β g ∨ w.heap.size ≤ g := by
    rintro g (hg | ⟨j, hj, e⟩)
    · exact .inl (.inl hg)
    · exact .inl (.inr ⟨j, hsub j hj, e⟩)
  have hm : Mv (Gs G0 s'.f.bx β) w w := Mv.refl _ _
  refine ⟨β, h.size, h.defers, fun t r htr => ?_, fun j t cs hj => ?_, fun j j' hj hj' => h.inj j j' (hsub j hj) (hsub j' hj'), fun j hj => ⟨(h.new j (hsub j hj)).1, ?_⟩, h.since, h.low⟩
  · obtain ⟨h1, h2⟩ := h.tms t r (leT_get ht t r htr)
    exact ⟨AR.low_of (List.all_eq_true.1 hl.1 _ (look_mem htr)), AR.ok_step (U := s.f.us) (fun _ _ => rfl) hG hm h1 h2⟩
  · obtain ⟨h1, vs, h2, h3, h4⟩ := h.bxs j t cs (leT_get hb j (t, cs) hj)
    have h5 := List.all_eq_true.1 hl.2 _ (look_mem hj)
    simp only [Bool.and_eq_true] at h5
    exact ⟨fun c hc => AC.low_of (List.all_eq_true.1 h5.2 c hc), vs, h2, h3, oks_step (U := s.f.us) (fun _ _ => rfl) hG hm h1 h4⟩
  · obtain ⟨p, hp⟩ := Option.isSome_iff_exists.1 hj
    have h5 := List.all_eq_true.1 hl.2 _ (look_mem hp)
    simp only [Bool.and_eq_true] at h5
    have h6 : j < s'.nb := by simpa [Nat.blt_eq] using h5.1
    exact h6
/-! ### functions -/
/-- What is handed back. -/
inductive RVs (P : Program) (s : ASt) : List ResultVar → List AV → Prop
  | nil : RVs P s [] []
  | tmp (t : Nat) (x : AV) (rs : List ResultVar) (xs : List AV) (h : look s.tm t = some (.val x)) (hr : RVs P s rs xs) : RVs P s (.tmp t :: rs) (x :: xs)
  | cell (t : Nat) (ty : TypeId) (j off m : Nat) (row : Bool) (bt : TypeId) (bs cs : List AC) (rs : List ResultVar) (xs : List AV) (hty : TyI P ty m row) (h : look s.tm t = some (.val (.one (.ptr j off)))) (hb : look s.bx j = some (bt, bs)) (hc : rdO bs off m = some cs)
      (hr : RVs P s rs xs) : RVs P s (.cell t ty :: rs) (mkAV row cs :: xs)
def resAR : List AV → AR
  | [x] => .val x
  | xs => .tup xs
def Ret (P : Program) (rv : List ResultVar) (res : AR) (e : Exit) (s : ASt) : Prop := (e = .normal ∨ e = .ret) ∧ ∃ xs, RVs P s rv xs ∧ res = resAR xs
theorem rvs_run {s : ASt} {rv : List ResultVar} {xs : List AV} {a : Act} (f : ResultVar → Sem Value) (hf1 : ∀ t, f (.tmp t) = pure (a.tmps.getD t undef)) (hf2 : ∀ p ty, f (.cell p ty) = (do loadVar ty (← asAddr (a.tmps.getD p undef)))) (h : RVs P s rv xs) {β : Nat → Nat} {w : World} (hs : OkB n G0 w0 s.f β a w) :
    ∃ vs, (rv.mapM f).run P w = .ok vs w ∧ oksV (Gs G0 s.f.bx β) β w xs vs := by
  induction h with
  | nil => exact ⟨[], by simp [List.mapM_nil, Sem.run_pure], trivial⟩
  | tmp t x rs xs h hr ih =>
    obtain ⟨vs, h1, h2⟩ := ih
    refine ⟨a.tmps.getD t undef :: vs, ?_, (hs.tms t _ h).2, h2⟩
    rw [List.mapM_cons, Sem.run_bind, hf1, Sem.run_pure, Result.andThen_ok, Sem.run_bind, h1, Result.andThen_ok, Sem.run_pure]
  | cell t ty j off m row bt bs cs rs xs hty h hb hc hr ih =>
    obtain ⟨vs, h1, h2⟩ := ih
    have hx' := (hs.tms t _ h).2
    simp only [AR.ok, AV.ok, AC.ok] at hx'
    obtain ⟨hlow, us, hbox, hone, hok⟩ := hs.bxs j bt bs hb
    obtain ⟨r1, r2, r3⟩ := rdO_get hc
    have hlen := oks_len hok
    have hys : oks (Gs G0 s.f.bx β) β w cs ((us.drop off).take m) := by
      refine oks_of_get (by simp; omega) fun k c v hc hv => ?_
      have hk : k < m := by have := (List.getElem?_eq_some_iff.1 hc).1; omega
      rw [r3 k hk] at hc
      obtain ⟨u, hu, hcu⟩ := oks_get hok _ _ hc
      rw [List.getElem?_take, if_pos hk, List.getElem?_drop, hu] at hv
      cases hv
      exact hcu
    have hrange : w.rangeAt (β j) off ((us.drop off).take m) := by
      intro k v hv
      rw [List.getElem?_take] at hv
      split at hv
      · rw [List.getElem?_drop] at hv
        exact hbox.at _ hv
      · cases hv
    have hl := hty.load w (β j) off _ hrange (by simp; omega)
    refine ⟨mkVal row ((us.drop off).take m) :: vs, ?_, mkAV_ok hys (fun e => by have := hty.one e; simp; omega), h2⟩
    rw [List.mapM_cons, Sem.run_bind, hf2, Sem.run_bind, hx']
    simp only [asAddr, Sem.run_pure, Result.andThen_ok, hl]
    rw [Sem.run_bind, h1, Result.andThen_ok, Sem.run_pure]
def argTm : Nat → List AR → List (Nat × AR)
  | _, [] => []
  | k, r :: rs => (k, r) :: argTm (k + 1) rs
theorem argTm_look {G : Nat → Prop} {β : Nat → Nat} {w : World} : ∀ {args : List AR} {vals : List Value} {k t : Nat} {r : AR}, oksR G β w args vals → look (argTm k args) t = some r → r ∈ args ∧ k ≤ t ∧ r.ok G β w (vals.getD (t - k) undef)
  | [], _, _, _, _, _, h => by simp [argTm, look] at h
  | r :: rs, v :: vs, k, t, r', ho, h => by
    simp only [argTm] at h
    rw [look_cons] at h
    split at h
    · rename_i e; cases h; subst e; exact ⟨by simp, Nat.le_refl _, by simpa using ho.1⟩
    · obtain ⟨h1, h2, h3⟩ := argTm_look ho.2 h
      refine ⟨by simp [h1], by omega, ?_⟩
      rw [show t - k = (t - (k + 1)) + 1 by omega]
      simpa using h3
  | _ :: _, [], _, _, _, ho, _ => ho.elim
/-- **A function's contract**, from a walk of its code. -/
theorem ct_of_wp {f : FuncId} {fn : Func} {c : Code} {args : List AR} {res : AR} (rv : List ResultVar) (tm : List (Nat × AR)) (nt : Nat) (hf : P.funcs[f]? = some fn) (hname : (fn.name == "runtime.NumGoroutine") = false) (hb : fn.body = some c) (hrv : fn.results = rv.toArray)
    (hnt : fn.ntmps = nt) (hlen : Nat.ble args.length nt = true) (htm : argTm 0 args = tm) (hnop : args.all AR.nop = true) (hres : res.nop = true) (h : ∀ (G0 : Nat → Prop) (w0 : World), Wp P nt G0 w0 ⟨tm, [], 0⟩ c (Ret P rv res)) : Ct P f args res where
  enters := fun vals w => enters_of hf hname hb vals w
  nop := hres
  calls := by
    intro G β w vals hG hargs
    subst htm hnt
    have hvl := oksR_len hargs
    have hlen' : args.length ≤ fn.ntmps := Nat.le_of_ble_eq_true hlen
    have hnop' : ∀ r ∈ args, r.nop = true := fun r hr => List.all_eq_true.1 hnop r hr
    refine calls_of_wp hf hb (wp_mono (h G w _ w ⟨β, ?_⟩) ?_)
    · have hGe : ∀ g, Gs G (ASt.f ⟨argTm 0 args, [], 0⟩).bx β g → G g ∨ w.heap.size ≤ g := by
        rintro g (hg | ⟨j, hj, _⟩)
        · exact .inl hg
        · simp [ASt.f, look] at hj
      refine ⟨by simp; omega, rfl, fun t r ht => ?_, fun j t cs hj => by simp [ASt.f, look] at hj, fun j j' hj => by simp [ASt.f, look] at hj, fun j hj => by simp [ASt.f, look] at hj, Below.refl _ _, hG⟩
      obtain ⟨h1, h2, h3⟩ := argTm_look hargs ht
      refine ⟨AR.nop_low (hnop' r h1) _, ?_⟩
      have hta : t < vals.length := by
        rcases Nat.lt_or_ge t vals.length with h | h
        · exact h
        · exfalso
          have : ∀ (k : Nat) (ys : List AR), look (argTm k ys) t ≠ none → t < k + ys.length := by
            intro k ys
            induction ys generalizing k with
            | nil => intro h; simp [argTm, look] at h
            | cons a ys ih =>
              intro h
              simp only [argTm] at h
              rw [look_cons] at h
              split at h
              · simp; omega
              · have := ih (k + 1) h; simp; omega
          have := this 0 args (by have ht' : look (argTm 0 args) t = some r := ht; rw [ht']; simp)
          omega
      have e : (vals.toArray ++ Array.replicate (fn.ntmps - vals.toArray.size) undef).getD t undef = vals.getD (t - 0) undef := by
        simp only [Array.getD_eq_getD_getElem?, Nat.sub_zero, List.getD_eq_getElem?_getD]
        rw [Array.getElem?_append_left (by simpa using hta)]
        simp
      rw [e]
      exact AR.ok_step (U := fun _ => True) (fun _ _ => rfl) hGe (Mv.refl _ _) (AR.nop_low (hnop' r h1) _) h3
    · rintro e a' w' ⟨s', ⟨β', hok⟩, hq, xs, hrvs, hxs⟩
      obtain ⟨vs, h1, h2⟩ := rvs_run (a := a') (fun | .tmp t => pure (a'.tmps.getD t undef) | .cell p ty => do loadVar ty (← asAddr (a'.tmps.getD p undef))) (fun _ => rfl) (fun _ _ => rfl) hrvs hok
      have hrun : (results fn a'.tmps).run P w' = .ok (if h : vs.toArray.size = 1 then vs.toArray[0] else .tuple vs.toArray) w' := by
        unfold results
        rw [hrv, Array.mapM_eq_mapM_toList, Sem.run_bind]
        simp only [Sem.run_map]
        refine Eq.trans (congrArg (fun x => (x.andThen fun a w' => Result.ok a.toArray w').andThen fun a w' => Sem.run P (pure (if h : a.size = 1 then a[0] else Value.tuple a)) w') h1) ?_
        rfl
      have hback : ∀ (r : AR) (v : Value), r.nop = true → r.ok (Gs G s'.f.bx β') β' w' v → r.ok G β w' v := fun r v hn hv =>
        AR.ok_step (U := fun _ => False) (fun _ h => h.elim) (fun g hg => .inl (.inl hg)) (Mv.refl _ _) (AR.nop_low hn _) hv
      have hfin : ∃ v, (results fn a'.tmps).run P w' = .ok v w' ∧ res.ok G β w' v := by
        refine ⟨_, hrun, hback res _ hres ?_⟩
        rw [hxs]
        rcases xs with _ | ⟨x, _ | ⟨y, xs⟩⟩
        · rcases vs with _ | ⟨v, vs⟩
          · exact ⟨[], rfl, trivial⟩
          · exact h2.elim
        · rcases vs with _ | ⟨v, _ | ⟨u, vs⟩⟩
          · exact h2.elim
          · exact h2.1
          · exact h2.2.elim
        · rcases vs with _ | ⟨v, _ | ⟨u, vs⟩⟩
          · exact h2.elim
          · exact h2.2.elim
          · rw [dif_neg (by simp)]
            exact ⟨_, rfl, h2⟩
      obtain ⟨v, hv1, hv2⟩ := hfin
      rcases hq with rfl | rfl
      · exact ⟨hok.defers, v, hv1, v, rfl, hv2, hok.since⟩
      · exact ⟨hok.defers, v, hv1, v, rfl, hv2, hok.since⟩
end
end Go.Proofs.YtjbagikfogejnaaGreatDoor
