import Derived.Test.YtonbhpadoplpkaaGreatRef3
/- The package rosetteref00: short, times, less, long. -/
namespace Go.Proofs.YtonbhpadoplpkaaGreat
open Go.RowKit Go.Deep
theorem val32_drop_step (xs : List Nat) (k : Nat) (hk : k < xs.length) : val32 (xs.drop k) = xs.getD k 0 + W32 * val32 (xs.drop (k + 1)) := by
  rw [List.drop_eq_getElem_cons hk]
  show xs[k] + W32 * _ = _
  simp [hk]
theorem val32_drop_set (os : List Nat) (k x : Nat) (hk : k < os.length) : val32 ((os.set k x).drop k) = x + W32 * val32 (os.drop (k + 1)) := by
  rw [drop_set_self os k x hk]
  rfl
theorem short_step {D b rest X x s q r : Nat} (h : D * b + rest = X) (hs : s = rest * W32 + x) (hq : s / b = q) (hr : s % b = r) : (q + W32 * D) * b + r = x + W32 * X := by
  have h1 := Nat.div_add_mod s b
  rw [hq, hr, hs, Nat.mul_comm b q] at h1
  rw [← h, Nat.add_mul, Nat.mul_add, Nat.mul_comm rest W32] at *
  rw [Nat.mul_assoc]
  omega
set_option maxHeartbeats 400000 in
set_option maxRecDepth 100000 in
theorem ref_short (A : Option Addr) (l c b : Nat) (xs : List Nat) (w : World) (h1 : Lim w w.heap.size A xs) (tx : Tiny xs) (e1 : l = xs.length) (hl : l ≤ 549755813888) (hb1 : 1 ≤ b) (hb2 : b < W32) :
    Calls Tryz.prog 98 #[.slice A l c, .int .u64 (b : Int)] w fun e w' => ∃ A' l' c' zs, e = .returned (.tuple #[.slice A' l' c', .int .u64 ((val32 xs % b : Nat) : Int)]) ∧ l' = zs.length ∧ l' ≤ c' ∧ zs.length ≤ l ∧ Lim w' w'.heap.size A' zs ∧ Tiny zs ∧ Norm zs ∧ val32 zs = val32 xs / b ∧ Below w.heap.size w w' := by
  have E1 := Lib.hid e1
  have TX := Lib.hid tx
  have HB := Lib.hid (And.intro hb1 hb2)
  have hlI : (l : Int) ≤ 549755813888 := by omega
  have hmk := make_limbs l (by omega)
  have hb0 : ¬ (b : Int) = 0 := by omega
  have hb0b : ((b : Int) == 0) = false := beq_eq_false_iff_ne.2 hb0
  have hb0n : ¬ b = 0 := by omega
  clear e1 tx hl hb1 hb2
  go_enter Tryz.func98, Tryz.ntmps98
  go_wp2_with fail
  go_loopw [7, 8] (fun t7 t8 wr => ∃ (k rest : Nat) (os : List Nat), k ≤ l ∧ t7 = .int .u64 (rest : Int) ∧ t8 = .int .i64 ((k : Int) - 1) ∧ rest < b ∧ os.length = l ∧ Tiny os ∧ Row wr w.heap.size os ∧ Below w.heap.size w wr ∧ val32 (os.drop k) * b + rest = val32 (xs.drop k)) (fun _ t8 _ => (intOf t8 + 1).toNat)
  case atStart =>
    exact ⟨l, 0, List.replicate l 0, Nat.le_refl _, rfl, rfl, by have := HB.out; omega, by simp, Tiny.zeros l, Row.made _ _, (Below.refl _ _).alloc (Nat.le_refl _) _, by
      rw [List.drop_of_length_le (by simp), List.drop_of_length_le (by rw [← E1.out]; exact Nat.le_refl _)]; simp [val32]⟩
  case round =>
    obtain ⟨k, rest, os, hk, rfl, rfl, hr, ho, hto, hrow, hbel, hval⟩ := hrel
    have HO := Lib.hid ho
    have HTO := Lib.hid hto
    have HV := Lib.hid hval
    have HR := Lib.hid hr
    have HK := Lib.hid hk
    clear ho hto hval hr hk
    rcases k with _ | k
    · have hlim := hrow.lim (B := wr.heap.size) hrow.lt
      have HVV := Lib.hid HV.out
      have HTR := Lib.hid (length_trimL_le os)
      have HMO := Lib.hid HO.out.symm
      have HDM : Hid (val32 os = val32 xs / b ∧ rest = val32 xs % b) := Lib.hid (by
        have h := HV.out
        rw [List.drop_zero, List.drop_zero] at h
        have hr := HR.out
        have hbp := HB.out.1
        rw [← h, Nat.mul_comm]
        rw [Nat.mul_add_div (by omega), Nat.mul_add_mod, Nat.div_eq_of_lt hr, Nat.mod_eq_of_lt hr]
        exact ⟨by omega, rfl⟩)
      go_wp2_with fail
      refine (ref_low _ l l os wr hlim HMO.out (Nat.le_refl _) (by omega)).mono ?_
      rintro e w2 ⟨rfl, rfl⟩
      go_wp2_with fail
      go_ret2
      have h5 := hlim.take (trimL os).length
      rw [← trimL_prefix] at h5
      refine ⟨some ⟨w.heap.size, 0, none⟩, (trimL os).length, l, trimL os, ?_, rfl, by have := HTR.out; have := HO.out; omega, by have := HTR.out; have := HO.out; omega, h5, HTO.out.trim, norm_trimL _, by rw [val32_trim]; exact HDM.out.1, hbel⟩
      rw [← HDM.out.2]
      rfl
    · have e1 : ((k + 1 : Nat) : Int) - 1 = (k : Int) := by omega
      have hk0 : (0 : Int) ≤ (k : Int) := by omega
      have hklI : (k : Int) < (l : Int) := by have := HK.out; omega
      rw [e1]
      have HKX := Lib.hid (show k < xs.length by rw [← E1.out]; exact HK.out)
      have HKO := Lib.hid (show k < os.length by rw [HO.out]; exact HK.out)
      obtain ⟨ax, rfl, _, hcx⟩ := (h1.below hbel).at_ HKX.out
      obtain ⟨x, hx⟩ : ∃ x, xs.getD k 0 = x := ⟨_, rfl⟩
      have HXT := Lib.hid (show x < W32 by rw [← hx]; exact TX.out.getD k)
      have HX := Lib.hid hx
      rw [hx] at hcx
      have hco := hrow.cell (k := k) HKO.out
      have hfo := hrow.free k
      obtain ⟨o, hoo⟩ : ∃ o, os.getD k 0 = o := ⟨_, rfl⟩
      rw [hoo] at hco
      obtain ⟨p, hp⟩ : ∃ p, rest * 4294967296 = p := ⟨_, rfl⟩
      obtain ⟨s, hs⟩ : ∃ s, p + x = s := ⟨_, rfl⟩
      obtain ⟨sd, hsd⟩ : ∃ sd, s / b = sd := ⟨_, rfl⟩
      obtain ⟨sm, hsm⟩ : ∃ sm, s % b = sm := ⟨_, rfl⟩
      have HSB := Lib.hid (show s < b * W32 by
        have h1 := HR.out
        have h2 := HXT.out
        rw [W32_eq] at h2 ⊢
        omega)
      have HSW := Lib.hid (show s < W64 ∧ p < W64 by
        have h1 := HSB.out
        have h2 := Nat.mul_lt_mul_of_lt_of_le HB.out.2 (Nat.le_refl W32) W32_pos
        rw [← W64_sq] at h2
        omega)
      have hpI : (rest : Int) * 4294967296 = (p : Int) := by omega
      have hsI : (p : Int) + (x : Int) = (s : Int) := by omega
      have hsdI : (s : Int) / (b : Int) = (sd : Int) := by rw [← hsd]; simp
      have hsmI : (s : Int) % (b : Int) = (sm : Int) := by rw [← hsm]; simp
      have wp : IntKind.u64.wrap (p : Int) = (p : Int) := wrap64_in HSW.out.2
      have ws : IntKind.u64.wrap (s : Int) = (s : Int) := wrap64_in HSW.out.1
      have HSM := Lib.hid (show sd < W32 ∧ sm < b from ⟨by rw [← hsd]; exact Nat.div_lt_of_lt_mul HSB.out, by rw [← hsm]; exact Nat.mod_lt _ HB.out.1⟩)
      have wd : IntKind.u64.wrap (sd : Int) = (sd : Int) := wrap64_in (Nat.lt_trans HSM.out.1 W32_lt)
      have wm : IntKind.u64.wrap (sm : Int) = (sm : Int) := wrap64_in (Nat.lt_trans HSM.out.2 (Nat.lt_trans HB.out.2 W32_lt))
      have HST := Lib.hid (show val32 ((os.set k sd).drop k) * b + sm = val32 (xs.drop k) by
        rw [val32_drop_set os k sd HKO.out, val32_drop_step xs k HKX.out, HX.out]
        exact short_step (s := s) HV.out (by rw [W32_eq]; omega) hsd hsm)
      have HLEN := Lib.hid (show (os.set k sd).length = l by rw [List.length_set, HO.out])
      clear hx hoo hp hs hsd hsm
      have HS2 := Lib.hid hsmI
      clear hsmI
      go_wp2_with fail
      exact ⟨⟨k, sm, os.set k sd, by have := HK.out; omega, by rw [HS2.out], rfl, HSM.out.2, HLEN.out, HTO.out.set _ _ HSM.out.1, hrow.set HKO.out (Nat.lt_trans HSM.out.1 W32_lt), hbel.setCell (Nat.le_refl _) _, HST.out⟩, by simp [intOf]⟩
theorem tim_step {P V b cy A x s : Nat} (h : V + cy * P = A * b) (hs : s = x * b + cy) : V + P * (s % W32) + s / W32 * (P * W32) = (A + P * x) * b := by
  have h1 := Nat.div_add_mod s W32
  rw [Nat.add_mul, ← h]
  have e1 : P * x * b = P * (x * b) := Nat.mul_assoc _ _ _
  have e2 : s / W32 * (P * W32) = P * (W32 * (s / W32)) := by ac_rfl
  have e3 : cy * P = P * cy := Nat.mul_comm _ _
  rw [e1, e2, e3]
  rw [Nat.add_assoc, Nat.add_assoc, ← Nat.mul_add, ← Nat.mul_add]
  congr 2
  omega
theorem times_bound {x b cy : Nat} (hx : x < W32) (hb : b < W32) (hc : cy < W32) : x * b + cy < W64 := by
  have h := step_bound (o := 0) hx hb W32_pos hc
  omega
set_option maxHeartbeats 400000 in
set_option maxRecDepth 100000 in
theorem ref_times (A : Option Addr) (l c b m : Nat) (xs : List Nat) (w : World) {B : Nat} (h1 : Lim w B A xs) (hB : B ≤ w.heap.size) (tx : Tiny xs) (e1 : l = xs.length) (hb2 : b < W32) (hm : m ≤ 549755813888) :
    Calls Tryz.prog 136 #[.slice A l c, .int .u64 (b : Int), .int .i64 (m : Int)] w fun e w' => ∃ zs cy, e = .returned (.slice (some ⟨w.heap.size, 0, none⟩) m m) ∧ zs.length = m ∧ Row w' w.heap.size zs ∧ Tiny zs ∧ val32 zs + cy * W32 ^ m = val32 (xs.take m) * b ∧ Below w.heap.size w w' := by
  have E1 := Lib.hid e1
  have TX := Lib.hid tx
  have HB := Lib.hid hb2
  have hmI : (m : Int) ≤ 549755813888 := by omega
  have hmk := make_limbs m (by omega)
  clear e1 tx hm hb2
  go_enter Tryz.func136, Tryz.ntmps136
  go_wp2_with fail
  go_loopw [8, 9] (fun t8 t9 wr => ∃ (k cy : Nat) (os : List Nat), k ≤ m ∧ t8 = .int .u64 (cy : Int) ∧ t9 = .int .i64 (k : Int) ∧ cy < W32 ∧ os.length = m ∧ Tiny os ∧ Row wr w.heap.size os ∧ Below w.heap.size w wr ∧ val32 (os.take k) + cy * W32 ^ k = val32 (xs.take k) * b) (fun _ t9 _ => m - (intOf t9).toNat)
  case atStart =>
    exact ⟨0, 0, List.replicate m 0, by omega, rfl, rfl, W32_pos, by simp, Tiny.zeros m, Row.made _ _, (Below.refl _ _).alloc (Nat.le_refl _) _, by simp [val32]⟩
  case round =>
    obtain ⟨k, cy, os, hk, rfl, rfl, hcy, ho, hto, hrow, hbel, hval⟩ := hrel
    have HO := Lib.hid ho
    have HTO := Lib.hid hto
    have HV := Lib.hid hval
    have HCY := Lib.hid hcy
    clear ho hto hval hcy
    by_cases hkm : k < m
    · have hkI : (k : Int) < (m : Int) := by omega
      have HKO := Lib.hid (show k < os.length by rw [HO.out]; exact hkm)
      have HKM := Lib.hid hkm
      clear hk hkm
      go_wp2_with fail
      refine (ref_digit A l c k xs wr (h1.below (hbel.mono hB)) E1.out).mono ?_
      rintro e w2 ⟨rfl, rfl⟩
      obtain ⟨x, hx⟩ : ∃ x, xs.getD k 0 = x := ⟨_, rfl⟩
      have HXT := Lib.hid (show x < W32 by rw [← hx]; exact TX.out.getD k)
      have HX := Lib.hid hx
      rw [hx]
      have hco := hrow.cell (k := k) HKO.out
      have hfo := hrow.free k
      obtain ⟨o, hoo⟩ : ∃ o, os.getD k 0 = o := ⟨_, rfl⟩
      rw [hoo] at hco
      obtain ⟨p, hp⟩ : ∃ p, x * b = p := ⟨_, rfl⟩
      obtain ⟨s, hs⟩ : ∃ s, p + cy = s := ⟨_, rfl⟩
      obtain ⟨sm, hsm⟩ : ∃ sm, s % 4294967296 = sm := ⟨_, rfl⟩
      obtain ⟨sd, hsd⟩ : ∃ sd, s / 4294967296 = sd := ⟨_, rfl⟩
      have HSB := Lib.hid (show s < W64 by rw [← hs, ← hp]; exact times_bound HXT.out HB.out HCY.out)
      have hpI : (x : Int) * (b : Int) = (p : Int) := by rw [← hp]; simp
      have hsI : (p : Int) + (cy : Int) = (s : Int) := by omega
      have hsmI : (s : Int) % 4294967296 = (sm : Int) := by omega
      have hsdI : (s : Int) / 4294967296 = (sd : Int) := by omega
      have wp : IntKind.u64.wrap (p : Int) = (p : Int) := wrap64_in (by have := HSB.out; omega)
      have ws : IntKind.u64.wrap (s : Int) = (s : Int) := wrap64_in HSB.out
      have wm : IntKind.u64.wrap (sm : Int) = (sm : Int) := wrap64_in (by have := HSB.out; omega)
      have wd : IntKind.u64.wrap (sd : Int) = (sd : Int) := wrap64_in (by have := HSB.out; omega)
      have HSM := Lib.hid (show sm < W32 ∧ sd < W32 from ⟨by rw [← hsm, ← W32_eq]; exact Nat.mod_lt _ W32_pos, by rw [← hsd, ← W32_eq]; exact div32_lt HSB.out⟩)
      have HST := Lib.hid (show val32 ((os.set k sm).take (k + 1)) + sd * W32 ^ (k + 1) = val32 (xs.take (k + 1)) * b by
        rw [val32_take_step xs k, HX.out, take_set_succ os k sm HKO.out, val32_snoc, List.length_take, Nat.min_eq_left (Nat.le_of_lt HKO.out), Nat.pow_succ]
        have h := tim_step (s := s) HV.out (show s = x * b + cy by omega)
        rwa [W32_eq, hsm, hsd, ← W32_eq] at h)
      have HLEN := Lib.hid (show (os.set k sm).length = m by rw [List.length_set, HO.out])
      clear hx hoo hp hs hsm hsd
      go_wp2_with fail
      exact ⟨⟨k + 1, sd, os.set k sm, HKM.out, rfl, by go_num, HSM.out.2, HLEN.out, HTO.out.set _ _ HSM.out.1, hrow.set HKO.out (Nat.lt_trans HSM.out.1 W32_lt), hbel.setCell (Nat.le_refl _) _, HST.out⟩, by have := HKM.out; simp [intOf]; omega⟩
    · obtain rfl : m = k := by omega
      have HVF := Lib.hid (show val32 os + cy * W32 ^ m = val32 (xs.take m) * b by
        have h := HV.out
        rwa [List.take_of_length_le (by rw [HO.out]; exact Nat.le_refl _)] at h)
      clear hkm
      go_wp2_with fail
      go_ret
      exact ⟨os, cy, rfl, HO.out, hrow, HTO.out, HVF.out, hbel⟩
end Go.Proofs.YtonbhpadoplpkaaGreat
