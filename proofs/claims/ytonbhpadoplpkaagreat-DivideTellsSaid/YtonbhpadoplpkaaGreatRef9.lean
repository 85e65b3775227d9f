import Derived.Test.YtonbhpadoplpkaaGreatRef8
/- The package rosetteref00: less. -/
namespace Go.Proofs.YtonbhpadoplpkaaGreat
open Go.RowKit Go.Deep
theorem val32_split (xs : List Nat) (k : Nat) (hk : k ≤ xs.length) : val32 xs = val32 (xs.take k) + W32 ^ k * val32 (xs.drop k) := by
  have h := val32_append (xs.take k) (xs.drop k)
  rwa [List.take_append_drop, List.length_take, Nat.min_eq_left hk] at h
theorem val32_lt_top {xs ys : List Nat} (h1 : Tiny xs) (hl : xs.length = ys.length) {k : Nat} (hk : k < xs.length) (hd : xs.drop (k + 1) = ys.drop (k + 1)) (hlt : xs.getD k 0 < ys.getD k 0) : val32 xs < val32 ys := by
  rw [val32_split xs k (by omega), val32_split ys k (by omega), val32_drop_step xs k hk, val32_drop_step ys k (by omega), hd]
  have h2 : val32 (xs.take k) < W32 ^ k := by
    have h := val32_lt (h1.take k)
    rwa [List.length_take, Nat.min_eq_left (by omega)] at h
  generalize val32 (ys.drop (k + 1)) = D
  have h3 : W32 ^ k * (xs.getD k 0 + W32 * D) + W32 ^ k ≤ W32 ^ k * (ys.getD k 0 + W32 * D) := step_lt (W32 ^ k) (W32 * D) hlt
  omega
theorem win_get (us : List Nat) (p m j : Nat) (hj : j < m) : ((us.drop p).take m).getD j 0 = us.getD (p + j) 0 := by
  simp [List.getD_eq_getElem?_getD, hj, List.getElem?_drop]
/-- What is left of a window of digits. -/
structure Taken (us us' : List Nat) (p m P : Nat) : Prop where
  len : us'.length = us.length
  tiny : Tiny us'
  low : us'.take p = us.take p
  high : us'.drop (p + m) = us.drop (p + m)
  is : val32 ((us'.drop p).take m) + P = val32 ((us.drop p).take m)
set_option maxHeartbeats 1000000 in
set_option maxRecDepth 100000 in
theorem ref_less (g L c p n q : Nat) (us : List Nat) (A2 : Option Addr) (c2 : Nat) (ys : List Nat) (w : World) (hrow : Row w g us) (hL : L = us.length) (hp : p + (n + 1) ≤ us.length) (tu : Tiny us) (h2 : Lim w w.heap.size A2 ys) (ty : Tiny ys) (e2 : n = ys.length) (hq : q < W32) (hl : us.length ≤ 549755813888) :
    Calls Tryz.prog 137 #[.slice (some ⟨g, 0, none⟩) L c, .int .i64 (p : Int), .slice A2 n c2, .int .u64 (q : Int)] w fun e w' => ∃ us', e = .returned (.bool (decide (val32 ys * q ≤ val32 ((us.drop p).take (n + 1))))) ∧ Row w' g us' ∧ w.grownBy w' (some g) ∧ (val32 ys * q ≤ val32 ((us.drop p).take (n + 1)) → Taken us us' p (n + 1) (val32 ys * q)) ∧ (¬ val32 ys * q ≤ val32 ((us.drop p).take (n + 1)) → us' = us) := by
  have HR0 := Lib.hid hrow
  have HLL := Lib.hid hL
  have HP := Lib.hid hp
  have TU := Lib.hid tu
  have TY := Lib.hid ty
  have E2 := Lib.hid e2
  have HQ := Lib.hid hq
  have HL := Lib.hid hl
  have hnI : (n : Int) + 1 ≤ 549755813888 := by omega
  have hpI : (p : Int) + (n : Int) + 1 ≤ 549755813888 := by omega
  have hLI : (p : Int) + (n : Int) + 1 ≤ (L : Int) := by omega
  obtain ⟨ws, hws⟩ : ∃ ws, (us.drop p).take (n + 1) = ws := ⟨_, rfl⟩
  have HWS := Lib.hid hws
  have HWL := Lib.hid (show ws.length = n + 1 by rw [← hws, List.length_take, List.length_drop]; omega)
  have HWG : Hid (∀ j, j < n + 1 → ws.getD j 0 = us.getD (p + j) 0) := Lib.hid (fun j hj => by rw [← hws]; exact win_get us p (n + 1) j hj)
  have HWT := Lib.hid (show Tiny ws by rw [← hws]; exact Tiny.take (fun y hy => tu y (List.mem_of_mem_drop hy)) _)
  obtain ⟨V, hV⟩ : ∃ V, val32 ys * q = V := ⟨_, rfl⟩
  have HVV := Lib.hid hV
  rw [hws, hV]
  clear hrow hL hp tu ty e2 hq hl hws hV
  go_enter Tryz.func137, Tryz.ntmps137
  go_wp2_with fail
  have kt := ref_times A2 n c2 q (n + 1) ys w h2 (Nat.le_refl _) TY.out E2.out HQ.out (by omega)
  rw [show ((n + 1 : Nat) : Int) = (n : Int) + 1 by omega] at kt
  refine kt.mono ?_
  clear kt
  rintro e w1 ⟨ps, cy, rfl, hpl, hprow, hpt, hpv, hb1⟩
  have HPV := Lib.hid (show val32 ps = V by
    rw [← HVV.out]
    rw [List.take_of_length_le (by have := E2.out; omega)] at hpv
    have h1 : val32 ys * q < W32 ^ (n + 1) := by
      have h := val32_lt TY.out
      rw [← E2.out] at h
      rw [Nat.pow_succ]
      exact Nat.mul_lt_mul'' h HQ.out
    rcases Nat.eq_zero_or_pos cy with h0 | h0
    · subst h0; omega
    · have h3 := Nat.le_mul_of_pos_left (W32 ^ (n + 1)) h0
      omega)
  have HPL := Lib.hid hpl
  have HPT := Lib.hid hpt
  obtain ⟨gp, hgp⟩ : ∃ gp, w.heap.size = gp := ⟨_, rfl⟩
  have HGP := Lib.hid (show gp ≠ g by have := HR0.out.lt; omega)
  have hrow1 := HR0.out.call hb1
  rw [hgp] at hprow ⊢
  have HB1 := Lib.hid hb1
  have HG1 := Lib.hid hprow.lt
  clear hpv hpl hpt hgp hb1 h2
  go_upto_block 0 with (fail)
  go_cut [] (fun wx => Row wx g us ∧ Row wx gp ps ∧ Below w1.heap.size w1 wx ∧ V ≤ val32 ws)
  case first =>
    go_wp2_with fail
    go_loopw [10] (fun t10 wr => ∃ k : Nat, k ≤ n + 1 ∧ t10 = .int .i64 ((k : Int) - 1) ∧ Row wr g us ∧ Row wr gp ps ∧ Below w1.heap.size w1 wr ∧ ps.drop k = ws.drop k) (fun t10 _ => (intOf t10 + 1).toNat)
    case atStart => exact ⟨n + 1, Nat.le_refl _, by go_num, hrow1, hprow, Below.refl _ _, by rw [List.drop_of_length_le (by rw [HPL.out]; exact Nat.le_refl _), List.drop_of_length_le (by rw [HWL.out]; exact Nat.le_refl _)]⟩
    case round =>
      clear hrow1 hprow
      obtain ⟨k, hk, rfl, hru, hrp, hbe, hsame⟩ := hrel
      have HK := Lib.hid hk
      have HSM := Lib.hid hsame
      have HBE := Lib.hid hbe
      clear hk hsame hbe
      rcases k with _ | k
      · have HEQ : Hid (V ≤ val32 ws) := Lib.hid (by
          have h := HSM.out
          rw [List.drop_zero, List.drop_zero] at h
          rw [← HPV.out, h]
          exact Nat.le_refl _)
        go_wp2_with fail
        go_meet
        exact ⟨hru, hrp, HBE.out, HEQ.out⟩
      · have e1 : ((k + 1 : Nat) : Int) - 1 = (k : Int) := by omega
        have hk0 : (0 : Int) ≤ (k : Int) := by omega
        have hkn : (k : Int) ≤ (n : Int) := by have := HK.out; omega
        rw [e1]
        obtain ⟨d, hd⟩ : ∃ d, p + k = d := ⟨_, rfl⟩
        have hdI : (p : Int) + (k : Int) = (d : Int) := by omega
        have hdL : (d : Int) < (L : Int) := by omega
        have HKP := Lib.hid (show k < ps.length by rw [HPL.out]; have := HK.out; omega)
        have hcp := hrp.cell (k := k) HKP.out
        have hcu := hru.cell (k := d) (by have := HP.out; have := HK.out; omega)
        obtain ⟨x, hx⟩ : ∃ x, ps.getD k 0 = x := ⟨_, rfl⟩
        obtain ⟨y, hy⟩ : ∃ y, us.getD d 0 = y := ⟨_, rfl⟩
        have HX := Lib.hid hx
        have HY : Hid (ws.getD k 0 = y) := Lib.hid (by rw [HWG.out k (by have := HK.out; omega), hd, hy])
        rw [hx] at hcp
        rw [hy] at hcu
        clear hx hy hd
        by_cases hlt : x < y
        · have hltI : (x : Int) < (y : Int) := by omega
          have HLT : Hid (V ≤ val32 ws) := Lib.hid (by
            rw [← HPV.out]
            exact Nat.le_of_lt (val32_lt_top HPT.out (by rw [HPL.out, HWL.out]) HKP.out HSM.out (by rw [HX.out, HY.out]; exact hlt)))
          clear hlt
          go_wp2_with fail
          go_quiet (fail)
          go_wp2_with fail
          go_meet
          exact ⟨hru.drewN _, hrp.drewN _, below_drewN HBE.out _, HLT.out⟩
        · have t1 : decide (x < y) = false := decide_eq_false hlt
          have HT1 := Lib.hid t1
          by_cases hgt : y < x
          · have t2 : decide (y < x) = true := decide_eq_true hgt
            have HGT : Hid (val32 ws < V) := Lib.hid (by
              rw [← HPV.out]
              exact val32_lt_top HWT.out (by rw [HPL.out, HWL.out]) (by rw [HWL.out, ← HPL.out]; exact HKP.out) HSM.out.symm (by rw [HX.out, HY.out]; exact hgt))
            clear hlt hgt
            go_wp2_with fail
            go_quiet (fail)
            have hru2 := hru.drewN nq
            have hrp2 := hrp.drewN nq
            have HBE2 := Lib.hid (below_drewN HBE.out nq)
            have hcp2 : (wr.drewN nq).cell? ⟨gp, k, none⟩ = some (.int .u64 (x : Int)) := hcp
            have hcu2 : (wr.drewN nq).cell? ⟨g, d, none⟩ = some (.int .u64 (y : Int)) := hcu
            generalize wr.drewN nq = wq at hru2 hrp2 HBE2 hcp2 hcu2 ⊢
            clear hcp hcu hru hrp HBE
            go_wp2_with fail
            go_quiet (fail)
            go_wp2_with fail
            go_ret
            exact ⟨us, by rw [decide_eq_false (show ¬ V ≤ val32 ws from by have := HGT.out; omega)]; rfl, hru2.drewN _, grownBy_of_below (HB1.out.trans ((below_drewN HBE2.out _).mono HB1.out.size)) _, fun h => absurd h (by have := HGT.out; omega), fun _ => rfl⟩
          · have t2 : decide (y < x) = false := decide_eq_false hgt
            have HEQ : Hid (ps.drop k = ws.drop k) := Lib.hid (by
              have h3 : ps.getD k 0 = ws.getD k 0 := by rw [HX.out, HY.out]; omega
              exact drop_same (by rw [HPL.out, HWL.out]) HKP.out HSM.out h3)
            clear hlt hgt
            go_wp2_with fail
            go_quiet (fail)
            have hru2 := hru.drewN nq
            have hrp2 := hrp.drewN nq
            have HBE2 := Lib.hid (below_drewN HBE.out nq)
            have hcp2 : (wr.drewN nq).cell? ⟨gp, k, none⟩ = some (.int .u64 (x : Int)) := hcp
            have hcu2 : (wr.drewN nq).cell? ⟨g, d, none⟩ = some (.int .u64 (y : Int)) := hcu
            generalize wr.drewN nq = wq at hru2 hrp2 HBE2 hcp2 hcu2 ⊢
            clear hcp hcu hru hrp HBE
            go_wp2_with fail
            go_quiet (fail)
            go_wp2_with fail
            exact ⟨⟨k, by have := HK.out; omega, rfl, hru2.drewN _, hrp2.drewN _, below_drewN HBE2.out _, HEQ.out⟩, by simp [intOf]⟩
  case rest =>
    obtain ⟨hru, hrp, hbe, hle⟩ := hcut
    have HLE := Lib.hid hle
    have HBC := Lib.hid (HB1.out.trans (hbe.mono HB1.out.size))
    have HGL := Lib.hid hru.lt
    have HBE := Lib.hid hbe
    clear hrow1 hprow hle hbe
    go_wp2_with fail
    go_loopw [11, 12] (fun t11 t12 wr => ∃ (i cr : Nat) (os : List Nat), i ≤ n + 1 ∧ t11 = .int .u64 (cr : Int) ∧ t12 = .int .i64 (i : Int) ∧ cr ≤ 1 ∧ os.length = us.length ∧ Tiny os ∧ Row wr g os ∧ Row wr gp ps ∧ wc.grownBy wr (some g) ∧ os.take p = us.take p ∧ os.drop (p + i) = us.drop (p + i) ∧ val32 ((os.drop p).take i) + val32 (ps.take i) = val32 (ws.take i) + cr * W32 ^ i) (fun _ t12 _ => n + 2 - (intOf t12).toNat)
    case atStart => exact ⟨0, 0, us, by omega, rfl, rfl, by omega, rfl, TU.out, hru, hrp, World.grownBy.refl _ _, rfl, rfl, by simp [val32]⟩
    case round =>
      clear hru hrp
      obtain ⟨i, cr, os, hi, rfl, rfl, hcr, ho, hto, hro, hrp, hgr, htk, hdr, hval⟩ := hrel
      have HI := Lib.hid hi
      have HCR := Lib.hid hcr
      have HO := Lib.hid ho
      have HTO := Lib.hid hto
      have HGR := Lib.hid hgr
      have HTK := Lib.hid htk
      have HDR := Lib.hid hdr
      have HV := Lib.hid hval
      clear hi hcr ho hto hgr htk hdr hval
      by_cases hin : i ≤ n
      · have hinI : (i : Int) ≤ (n : Int) := by omega
        have HIN := Lib.hid hin
        obtain ⟨d, hd⟩ : ∃ d, p + i = d := ⟨_, rfl⟩
        have hdI : (p : Int) + (i : Int) = (d : Int) := by omega
        have hdL : (d : Int) < (L : Int) := by omega
        have HD := Lib.hid hd
        have HDO := Lib.hid (show d < os.length by rw [HO.out]; have := HP.out; omega)
        have HIP := Lib.hid (show i < ps.length by rw [HPL.out]; omega)
        have hcp := hrp.cell (k := i) HIP.out
        have hcu := hro.cell (k := d) HDO.out
        obtain ⟨y, hy⟩ : ∃ y, ps.getD i 0 = y := ⟨_, rfl⟩
        obtain ⟨x, hx⟩ : ∃ x, os.getD d 0 = x := ⟨_, rfl⟩
        rw [hy] at hcp
        rw [hx] at hcu
        have HY := Lib.hid hy
        have HX : Hid (ws.getD i 0 = x) := Lib.hid (by
          rw [HWG.out i (by omega), hd, ← hx]
          have h := HDR.out
          rw [hd] at h
          exact (getD_of_drop h).symm)
        have HYT := Lib.hid (show y < W32 by rw [← hy]; exact HPT.out.getD i)
        have HXT := Lib.hid (show x < W32 by rw [← hx]; exact HTO.out.getD d)
        obtain ⟨s1, hs1⟩ : ∃ s1, 4294967296 + x = s1 := ⟨_, rfl⟩
        obtain ⟨s2, hs2⟩ : ∃ s2, s1 - y = s2 := ⟨_, rfl⟩
        obtain ⟨s, hs⟩ : ∃ s, s2 - cr = s := ⟨_, rfl⟩
        obtain ⟨sm, hsm⟩ : ∃ sm, s % 4294967296 = sm := ⟨_, rfl⟩
        obtain ⟨sd, hsd⟩ : ∃ sd, 1 - s / 4294967296 = sd := ⟨_, rfl⟩
        have hb2 := HYT.out
        have hb3 := HXT.out
        have hb4 := HCR.out
        rw [W32_eq] at hb2 hb3
        have HBS := Lib.hid (show s < W64 ∧ s2 < W64 ∧ s1 < W64 by rw [W64_eq]; omega)
        have hs1I : (4294967296 : Int) + (x : Int) = (s1 : Int) := by omega
        have hs2I : (s1 : Int) - (y : Int) = (s2 : Int) := by omega
        have hsI : (s2 : Int) - (cr : Int) = (s : Int) := by omega
        have hsmI : (s : Int) % 4294967296 = (sm : Int) := by omega
        have hsdI : (1 : Int) - (s : Int) / 4294967296 = (sd : Int) := by omega
        have w1' : IntKind.u64.wrap (s1 : Int) = (s1 : Int) := wrap64_in HBS.out.2.2
        have w2' : IntKind.u64.wrap (s2 : Int) = (s2 : Int) := wrap64_in HBS.out.2.1
        have w3' : IntKind.u64.wrap (s : Int) = (s : Int) := wrap64_in HBS.out.1
        have HST := Lib.hid (sub_step (s := s) (t := sd) (x := x) (y := y) HV.out (by rw [W32_eq]; omega) HCR.out HXT.out (by rw [W32_eq]; omega))
        have w4' : IntKind.u64.wrap (sm : Int) = (sm : Int) := wrap64_in (by rw [W64_eq]; omega)
        have w5' : IntKind.u64.wrap (sd : Int) = (sd : Int) := wrap64_in (by rw [W64_eq]; have := HST.out.2.1; omega)
        have HSM := Lib.hid (show sm < W32 by rw [W32_eq]; omega)
        have HSE := Lib.hid (show sm = s % W32 by rw [W32_eq]; omega)
        clear hin hd hy hx hs1 hs2 hs hsm hsd hb2 hb3 hb4
        go_wp2_with fail
        go_quiet (fail)
        have hro2 := hro.drewN nq
        have hrp2 := hrp.drewN nq
        have HGR2 := Lib.hid (grownBy_trans HGR.out (grownBy_of_below (below_drewN (Below.refl _ wr) nq) _))
        have hcu2 : (wr.drewN nq).cell? ⟨g, d, none⟩ = some (.int .u64 (x : Int)) := hcu
        generalize wr.drewN nq = wq at hro2 hrp2 HGR2 hcu2 ⊢
        have hfo := hro2.free d
        have HFIN : Hid ((os.set d sm).take p = us.take p ∧ (os.set d sm).drop (p + (i + 1)) = us.drop (p + (i + 1)) ∧ val32 (((os.set d sm).drop p).take (i + 1)) + val32 (ps.take (i + 1)) = val32 (ws.take (i + 1)) + sd * W32 ^ (i + 1)) := Lib.hid (by
          have hd := HD.out
          refine ⟨?_, ?_, ?_⟩
          · rw [← HTK.out, List.take_set_of_le (by omega)]
          · have h := drop_more HDR.out 1
            rw [Nat.add_assoc] at h
            rw [List.drop_set_of_lt (by omega)]
            exact h
          · rw [← hd, drop_set_add, take_set_succ _ i sm (by rw [List.length_drop, HO.out]; have := HP.out; have := HIN.out; omega), val32_snoc, val32_take_step ps i, val32_take_step ws i, HY.out, HX.out, List.length_take, Nat.min_eq_left (by rw [List.length_drop, HO.out]; have := HP.out; have := HIN.out; omega), Nat.pow_succ, HSE.out]
            have h := HST.out.1
            omega)
        clear hcu hcp hro hrp HGR
        go_wp2_with fail
        exact ⟨⟨i + 1, sd, os.set d sm, by have := HIN.out; omega, rfl, by go_num, HST.out.2.1, by rw [List.length_set, HO.out], HTO.out.set _ _ HSM.out, hro2.set HDO.out (Nat.lt_trans HSM.out W32_lt), hrp2.far HGP.out _, grownBy_trans HGR2.out (only_set _ _ _), HFIN.out.1, HFIN.out.2.1, HFIN.out.2.2⟩, by simp [intOf]; have := HIN.out; omega⟩
      · have hinI : ¬ (i : Int) ≤ (n : Int) := by omega
        have HIE : Hid (i = n + 1) := Lib.hid (by have := HI.out; omega)
        clear hin
        go_wp2_with fail
        go_ret
        have hie := HIE.out
        subst hie
        refine ⟨by rw [decide_eq_true HLE.out]; rfl, os, hro, grownBy_trans (grownBy_of_below HBC.out _) HGR.out, fun _ => ⟨HO.out, HTO.out, HTK.out, HDR.out, ?_⟩, fun h => absurd HLE.out (by omega)⟩
        have hv := HV.out
        rw [List.take_of_length_le (l := ps) (by rw [HPL.out]; exact Nat.le_refl _), List.take_of_length_le (l := ws) (by rw [HWL.out]; exact Nat.le_refl _), HPV.out] at hv
        have ho : val32 ((os.drop p).take (n + 1)) < W32 ^ (n + 1) := by
          have h := val32_lt ((show Tiny (os.drop p) from fun y hy => HTO.out y (List.mem_of_mem_drop hy)).take (n + 1))
          rwa [List.length_take, List.length_drop, Nat.min_eq_left (by rw [HO.out]; have := HP.out; omega)] at h
        have h := sub_end hv HCR.out ho HLE.out
        rw [HWS.out, h]
        have := HLE.out
        omega
end Go.Proofs.YtonbhpadoplpkaaGreat
