import Derived.Test.YtonbhpadoplpkaaGreatRef9
/- The package rosetteref00: long. -/
namespace Go.Proofs.YtonbhpadoplpkaaGreat
open Go.RowKit Go.Deep
theorem val32_nil : val32 [] = 0 := rfl
theorem alg32 (W : Nat) {M t win rest P D V q r : Nat} (hrest : rest = 0) (hM : M = t + P * (win + rest) + D * (P * W) * V) (hw : win = q * V + r) : M = t + P * (r + 0) + (q + W * D) * P * V := by
  subst hrest
  rw [hM, hw]; grind
theorem over_win32 {us : List Nat} (hs : Tiny us) {p lb V : Nat} (hp : p + (lb + 1) ≤ us.length) (hVl : V < W32 ^ lb) (hlt : val32 (us.drop (p + 1)) < V) :
    val32 ((us.drop p).take (lb + 1)) < V * W32 ∧ val32 (us.drop (p + (lb + 1))) = 0 := by
  have h1 := val32_drop_step us p (by omega)
  have h2 : us.getD p 0 < W32 := hs.getD p
  have h3 := val32_split (us.drop p) (lb + 1) (by rw [List.length_drop]; omega)
  rw [List.drop_drop] at h3
  have h4 := val32_split (us.drop (p + 1)) lb (by rw [List.length_drop]; omega)
  rw [List.drop_drop] at h4
  have h5 : W32 * val32 (us.drop (p + 1)) + W32 ≤ W32 * V := by
    have := Nat.mul_le_mul_left W32 (show val32 (us.drop (p + 1)) + 1 ≤ V from hlt)
    rwa [Nat.mul_add, Nat.mul_one] at this
  rw [Nat.mul_comm V]
  refine ⟨by omega, ?_⟩
  rw [show p + 1 + lb = p + (lb + 1) by omega] at h4
  rcases Nat.eq_zero_or_pos (val32 (us.drop (p + (lb + 1)))) with h6 | h6
  · exact h6
  · have := Nat.mul_le_mul_left (W32 ^ lb) h6
    omega
theorem over_step32 {us us' os : List Nat} (hs : Tiny us) {p lb V M q : Nat} (hlen : us'.length = us.length) (hp : p + (lb + 1) ≤ us.length) (hV0 : 0 < V) (hVl : V < W32 ^ lb) (hlt : val32 (us.drop (p + 1)) < V)
    (hM : M = val32 us + val32 (os.drop (p + 1)) * W32 ^ (p + 1) * V) (hq : q = val32 ((us.drop p).take (lb + 1)) / V) (htk : us'.take p = us.take p) (hdr : us'.drop (p + (lb + 1)) = us.drop (p + (lb + 1)))
    (hr : val32 ((us'.drop p).take (lb + 1)) = val32 ((us.drop p).take (lb + 1)) % V) (hpo : p < os.length) :
    val32 (us'.drop p) < V ∧ M = val32 us' + val32 ((os.set p q).drop p) * W32 ^ p * V := by
  obtain ⟨_, h0⟩ := over_win32 hs hp hVl hlt
  have e1 := val32_split us p (by omega)
  have e2 := val32_split (us.drop p) (lb + 1) (by rw [List.length_drop]; omega)
  rw [List.drop_drop, h0] at e2
  have e3 := val32_split us' p (by omega)
  have e4 := val32_split (us'.drop p) (lb + 1) (by rw [List.length_drop]; omega)
  rw [List.drop_drop, hdr, h0, hr] at e4
  have h5 := Nat.div_add_mod (val32 ((us.drop p).take (lb + 1))) V
  rw [← hq] at h5
  have h6 := Nat.mod_lt (val32 ((us.drop p).take (lb + 1))) hV0
  rw [Nat.mul_zero, Nat.add_zero] at e4
  refine ⟨by rw [e4]; exact h6, ?_⟩
  rw [e3, e4, htk, val32_drop_set os p q hpo]
  rw [e1, e2, Nat.pow_succ] at hM
  have h7 := alg32 W32 (Nat.mul_zero (W32 ^ (lb + 1))) hM (q := q) (r := val32 ((us.drop p).take (lb + 1)) % V) (by rw [Nat.mul_comm]; exact h5.symm)
  rwa [Nat.add_zero] at h7
theorem guess_ge32 {win vs : List Nat} (hw : Tiny win) {n : Nat} (hv : vs.length = n + 1) (hwl : win.length = n + 2) :
    (val32 win / val32 vs) * vs.getD n 0 ≤ win.getD n 0 + W32 * win.getD (n + 1) 0 := by
  have h1 := Nat.div_mul_le_self (val32 win) (val32 vs)
  generalize val32 win / val32 vs = Q at *
  have e1 : val32 win = val32 (win.take n) + W32 ^ n * (win.getD n 0 + W32 * win.getD (n + 1) 0) := by
    have h3 := val32_split win n (by omega)
    have h4 := val32_drop_step win n (by omega)
    have h5 := val32_drop_step win (n + 1) (by omega)
    rw [List.drop_of_length_le (i := n + 1 + 1) (by omega), val32_nil, Nat.mul_zero, Nat.add_zero] at h5
    rw [h3, h4, h5, Nat.add_zero]
  have e2 : val32 vs = val32 (vs.take n) + W32 ^ n * vs.getD n 0 := by
    have h3 := val32_take_step vs n
    rwa [List.take_of_length_le (by omega)] at h3
  have h6 := val32_lt (hw.take n)
  rw [List.length_take, Nat.min_eq_left (by omega)] at h6
  rw [e1, e2] at h1
  generalize win.getD n 0 + W32 * win.getD (n + 1) 0 = t at *
  generalize vs.getD n 0 = v at *
  generalize val32 (vs.take n) = a at *
  generalize val32 (win.take n) = b at *
  generalize W32 ^ n = P at *
  rcases Nat.lt_or_ge t (Q * v) with h | h
  · exfalso
    have h7 := Nat.mul_le_mul_left P (show t + 1 ≤ Q * v from h)
    have h8 : Q * (a + P * v) = Q * a + P * (Q * v) := by grind
    rw [Nat.mul_add, Nat.mul_one] at h7
    have : 0 ≤ Q * a := Nat.zero_le _
    omega
  · exact h

theorem below_of_grown {w a b : World} {g : Nat} (h : Below w.heap.size w a) (k : a.grownBy b (some g)) (hg : w.heap.size ≤ g) : Below w.heap.size w b :=
  ⟨k.os.trans h.os, k.tape.trans h.tape, k.output.trans h.output, Nat.le_trans h.size k.size, fun i hi => by
    rw [k.block i (Nat.lt_of_lt_of_le hi h.size) (fun e => by have := Option.some.inj e; omega)]
    exact h.block i hi⟩
theorem Row.grown {a b : World} {g r : Nat} {os : List Nat} (h : Row a r os) (k : a.grownBy b (some g)) (hr : r ≠ g) : Row b r os :=
  h.of_block (k.block r h.lt (fun e => hr (Option.some.inj e)))
/-- The scale's bounds. -/
theorem scale_facts {ys : List Nat} {n t S : Nat} (ty : Tiny ys) (hl : ys.length = n + 1) (ht : ys.getD n 0 = t) (ht0 : t ≠ 0) (hS : 4294967296 / (t + 1) = S) : 1 ≤ S ∧ S < W32 ∧ val32 ys * S < W32 ^ (n + 1) ∧ W32 ^ n * S ≤ val32 ys * S := by
  have htW : t < W32 := by rw [← ht]; exact ty.getD n
  rw [W32_eq] at htW
  have h1 : 1 ≤ S := by rw [← hS]; exact (Nat.le_div_iff_mul_le (by omega)).2 (by omega)
  have h2 : S * (t + 1) ≤ 4294967296 := by rw [← hS]; exact Nat.div_mul_le_self _ _
  have h3 : S < W32 := by
    rw [W32_eq]
    have h4 := Nat.mul_le_mul_left S (show 2 ≤ t + 1 by omega)
    omega
  have e : val32 ys = val32 (ys.take n) + W32 ^ n * t := by
    have h5 := val32_take_step ys n
    rwa [List.take_of_length_le (by omega), ht] at h5
  have h6 := val32_lt (ty.take n)
  rw [List.length_take, Nat.min_eq_left (by omega)] at h6
  have hSW : S * (t + 1) ≤ W32 := by rw [W32_eq]; exact h2
  refine ⟨h1, h3, ?_, ?_⟩
  · have h7 : val32 ys < W32 ^ n * (t + 1) := by rw [e, Nat.mul_add, Nat.mul_one]; omega
    have h8 := Nat.mul_lt_mul_of_pos_right h7 (show 0 < S by omega)
    rw [Nat.mul_assoc, Nat.mul_comm (t + 1) S] at h8
    rw [Nat.pow_succ]
    exact Nat.lt_of_lt_of_le h8 (Nat.mul_le_mul_left _ hSW)
  · refine Nat.mul_le_mul_right S ?_
    rw [e]
    have := Nat.le_mul_of_pos_right (W32 ^ n) (show 0 < t by omega)
    omega
/-- The first window lies below the divisor. -/
theorem first_window {us : List Nat} {k n S V X : Nat} (hX : val32 us = X * S) (hx : X < W32 ^ (k + n)) (hk : k ≤ us.length) (hV : W32 ^ n * S ≤ V) (hS : 1 ≤ S) : val32 (us.drop k) < V := by
  have h1 := val32_split us k hk
  have h2 := Nat.mul_lt_mul_of_pos_right hx (show 0 < S by omega)
  rw [Nat.pow_add, Nat.mul_assoc] at h2
  have h3 := Nat.mul_le_mul_left (W32 ^ k) hV
  have h4 : W32 ^ k * val32 (us.drop k) < W32 ^ k * V := by omega
  exact Nat.lt_of_mul_lt_mul_left h4
set_option maxHeartbeats 2000000 in
set_option maxRecDepth 100000 in
theorem ref_long (A1 A2 : Option Addr) (l1 l2 c1 c2 n : Nat) (xs ys : List Nat) (w : World) (h1 : Lim w w.heap.size A1 xs) (h2 : Lim w w.heap.size A2 ys) (tx : Tiny xs) (ty : Tiny ys) (e1 : l1 = xs.length) (e2 : l2 = ys.length) (hn : l2 = n + 1) (hle : l2 ≤ l1) (hl : l1 ≤ 274877906944) (htop : ys.getD n 0 ≠ 0) :
    Calls Tryz.prog 100 #[.slice A1 l1 c1, .slice A2 l2 c2] w fun e w' => ∃ Aq lq cq zs Ar lr cr rs, e = .returned (.tuple #[.slice Aq lq cq, .slice Ar lr cr]) ∧ lq = zs.length ∧ lq ≤ cq ∧ zs.length ≤ l1 ∧ Lim w' w'.heap.size Aq zs ∧ Tiny zs ∧ val32 zs = val32 xs / val32 ys ∧ lr = rs.length ∧ lr ≤ cr ∧ rs.length ≤ l1 + 1 ∧ Lim w' w'.heap.size Ar rs ∧ Tiny rs ∧ val32 rs = val32 xs % val32 ys ∧ Below w.heap.size w w' := by
  have E1 := Lib.hid e1
  have E2 := Lib.hid e2
  have EN := Lib.hid hn
  have TX := Lib.hid tx
  have TY := Lib.hid ty
  have HLE := Lib.hid (And.intro hle hl)
  obtain ⟨t, ht⟩ : ∃ t, ys.getD n 0 = t := ⟨_, rfl⟩
  rw [ht] at htop
  obtain ⟨ad, rfl, _, hct⟩ := h2.at_ (k := n) (by omega)
  rw [ht] at hct
  have htW : t < W32 := by rw [← ht]; exact ty.getD n
  rw [W32_eq] at htW
  obtain ⟨t1, ht1⟩ : ∃ t1, t + 1 = t1 := ⟨_, rfl⟩
  obtain ⟨S, hS⟩ : ∃ S, 4294967296 / t1 = S := ⟨_, rfl⟩
  have HSF := Lib.hid (scale_facts (S := S) ty (by omega) ht htop (by rw [ht1]; exact hS))
  have ht1I : (t : Int) + 1 = (t1 : Int) := by omega
  have hSI : (4294967296 : Int) / (t1 : Int) = (S : Int) := by rw [← hS]; simp
  have ht10 : ¬ (t1 : Int) = 0 := by omega
  have ht10b : ((t1 : Int) == 0) = false := beq_eq_false_iff_ne.2 ht10
  have ht10n : ¬ t1 = 0 := by omega
  have wt1 : IntKind.u64.wrap (t1 : Int) = (t1 : Int) := wrap64_in (by rw [W64_eq]; omega)
  have wS : IntKind.u64.wrap (S : Int) = (S : Int) := wrap64_in (Nat.lt_trans HSF.out.2.1 W32_lt)
  have hl1I : (l1 : Int) ≤ 274877906944 := by omega
  have hl2I : (l2 : Int) ≤ (l1 : Int) := by omega
  have hnI : (l2 : Int) - 1 = (n : Int) := by omega
  have hnl : (n : Int) < (l2 : Int) := by omega
  obtain ⟨m, hm⟩ : ∃ m, l1 - l2 + 1 = m := ⟨_, rfl⟩
  have hmI : (l1 : Int) - (l2 : Int) + 1 = (m : Int) := by omega
  have HM := Lib.hid hm
  have hmk := make_limbs m (by omega)
  clear e1 e2 hn tx ty hle hl ht htop htW ht1 hS hm
  go_enter Tryz.func100, Tryz.ntmps100
  go_wp2_with fail
  have HSI := Lib.hid hSI
  have kt := ref_times A1 l1 c1 S (l1 + 1) xs w h1 (Nat.le_refl _) TX.out E1.out HSF.out.2.1 (by have := HLE.out; omega)
  rw [show ((l1 + 1 : Nat) : Int) = (l1 : Int) + 1 by omega] at kt
  refine kt.mono ?_
  clear kt
  rintro e w1 ⟨us, cy, rfl, hul, hurow, hut, huv, hb1⟩
  have HUV := Lib.hid (show val32 us = val32 xs * S by
    rw [List.take_of_length_le (by have := E1.out; omega)] at huv
    have h1 : val32 xs * S < W32 ^ (l1 + 1) := by
      have h := val32_lt TX.out
      rw [← E1.out] at h
      rw [Nat.pow_succ]
      exact Nat.mul_lt_mul'' h HSF.out.2.1
    rcases Nat.eq_zero_or_pos cy with h0 | h0
    · subst h0; omega
    · have h3 := Nat.le_mul_of_pos_left (W32 ^ (l1 + 1)) h0
      omega)
  have HUL := Lib.hid hul
  have HUT := Lib.hid hut
  have HB1 := Lib.hid hb1
  obtain ⟨gu, hgu⟩ : ∃ gu, w.heap.size = gu := ⟨_, rfl⟩
  have HGU := Lib.hid (show w.heap.size ≤ gu by omega)
  rw [hgu] at hurow ⊢
  have h21 := (h2.below hb1).more hb1.size
  clear huv hul hut hb1 hgu h1 hct h2 ht1I hSI ht10 ht10b ht10n wt1 wS
  go_wp2_with fail
  rw [HSI.out]
  have kt := ref_times (some ad) l2 c2 S l2 ys w1 h21 (Nat.le_refl _) TY.out E2.out HSF.out.2.1 (by have := HLE.out; omega)
  refine kt.mono ?_
  clear kt
  rintro e w2 ⟨vs, cy2, rfl, hvl, hvrow, hvt, hvv, hb2⟩
  have HVV := Lib.hid (show val32 vs = val32 ys * S by
    rw [List.take_of_length_le (by have := E2.out; omega)] at hvv
    have h1 := HSF.out.2.2.1
    rw [← EN.out] at h1
    rcases Nat.eq_zero_or_pos cy2 with h0 | h0
    · subst h0; omega
    · have h3 := Nat.le_mul_of_pos_left (W32 ^ l2) h0
      omega)
  have HVL := Lib.hid hvl
  have HVT := Lib.hid hvt
  have HB2 := Lib.hid (HB1.out.trans (hb2.mono HB1.out.size))
  obtain ⟨gv, hgv⟩ : ∃ gv, w1.heap.size = gv := ⟨_, rfl⟩
  have HGV := Lib.hid (show w.heap.size ≤ gv ∧ gu < gv from by have := hurow.lt; have := HB1.out.size; omega)
  rw [hgv] at hvrow ⊢
  have hurow2 := hurow.call hb2
  clear hvv hvl hvt hb2 hgv hurow h21
  go_upto_region 5 with (fail)
  obtain ⟨go_, hgo⟩ : ∃ go_, w2.heap.size = go_ := ⟨_, rfl⟩
  have HGO := Lib.hid (show w.heap.size ≤ go_ ∧ gu < go_ ∧ gv < go_ from by have := hvrow.lt; have := hurow2.lt; have := HB2.out.size; omega)
  have hur := hurow2.alloc (.cells (madeCells #[.int .u64 0] m) 85)
  have hvr := hvrow.alloc (.cells (madeCells #[.int .u64 0] m) 85)
  have hor := Row.made w2 m (t := 85)
  have HB3 := Lib.hid (HB2.out.alloc HB2.out.size (.cells (madeCells #[.int .u64 0] m) 85))
  rw [hgo] at hor ⊢
  clear hurow2 hvrow hgo hmk
  generalize w2.alloc (.cells (madeCells #[.int .u64 0] m) 85) = W3 at hur hvr hor HB3 ⊢
  go_wp2_with fail
  obtain ⟨V, hV⟩ : ∃ V, val32 vs = V := ⟨_, rfl⟩
  have HV := Lib.hid hV
  have HVL2 := Lib.hid (show V < W32 ^ (n + 1) ∧ 0 < V ∧ W32 ^ n * S ≤ V from by
    have h1 := HSF.out.2.2.1
    have h2 := HSF.out.2.2.2
    rw [← HVV.out, hV] at h1 h2
    refine ⟨h1, ?_, h2⟩
    have h3 := Nat.mul_pos (Nat.pow_pos (n := n) W32_pos) (show 0 < S from HSF.out.1)
    omega)
  have HFW := Lib.hid (show val32 (us.drop m) < V from first_window HUV.out (n := n) (by
    have h := val32_lt TX.out
    rwa [← E1.out, show l1 = m + n by have := HM.out; have := EN.out; have := HLE.out; omega] at h) (by rw [HUL.out]; have := HM.out; have := EN.out; omega) HVL2.out.2.2 HSF.out.1)
  clear hV hmI
  go_loopw [10] (fun t10 wr => ∃ (k : Nat) (us' os : List Nat), k ≤ m ∧ t10 = .int .i64 ((k : Int) - 1) ∧ Row wr gu us' ∧ Row wr gv vs ∧ Row wr go_ os ∧ us'.length = l1 + 1 ∧ Tiny us' ∧ os.length = m ∧ Tiny os ∧ val32 (us'.drop k) < V ∧ val32 us = val32 us' + val32 (os.drop k) * W32 ^ k * V ∧ Below w.heap.size w wr) (fun t10 _ => (intOf t10 + 1).toNat)
  case atStart =>
    exact ⟨m, us, List.replicate m 0, Nat.le_refl _, by have := HM.out; have := HLE.out; congr 1; omega, hur, hvr, hor, HUL.out, HUT.out, by simp, Tiny.zeros m, HFW.out, by rw [List.drop_of_length_le (by simp), val32_nil]; simp, HB3.out⟩
  case round =>
    clear hur hvr hor
    obtain ⟨k, us', os, hk, rfl, hur, hvr, hor, hul, hut, hol, hot, hlt, hval, hb⟩ := hrel
    have HK := Lib.hid hk
    have HUL2 := Lib.hid hul
    have HUT2 := Lib.hid hut
    have HOL := Lib.hid hol
    have HOT := Lib.hid hot
    have HLT := Lib.hid hlt
    have HVAL := Lib.hid hval
    have HB := Lib.hid hb
    clear hk hul hut hol hot hlt hval hb
    rcases k with _ | p
    · have HQR := Lib.hid (show val32 os = val32 xs / val32 ys ∧ val32 us' = (val32 xs % val32 ys) * S from by
        have h := HVAL.out
        have h2 := HLT.out
        rw [List.drop_zero] at h h2
        rw [Nat.pow_zero, Nat.mul_one, HUV.out] at h
        have hS0 : 0 < S := HSF.out.1
        have hd : val32 xs * S / V = val32 os := by
          rw [h, Nat.add_mul_div_right _ _ HVL2.out.2.1, Nat.div_eq_of_lt h2, Nat.zero_add]
        have hm : val32 xs * S % V = val32 us' := by
          rw [h, Nat.add_mul_mod_self_right, Nat.mod_eq_of_lt h2]
        rw [← HV.out, HVV.out] at hd hm
        rw [Nat.mul_div_mul_right _ _ hS0] at hd
        rw [Nat.mul_mod_mul_right] at hm
        exact ⟨hd.symm, hm.symm⟩)
      have hlimu := hur.lim (B := wr.heap.size) hur.lt
      have HTU := Lib.hid (length_trimL_le us')
      have HTO := Lib.hid (length_trimL_le os)
      have HOR := Lib.hid hor
      clear hvr hor
      go_wp2_with fail
      refine (ref_low (some ⟨gu, 0, none⟩) (l1 + 1) (l1 + 1) us' wr hlimu HUL2.out.symm (Nat.le_refl _) (by have := HLE.out; omega)).mono ?_
      rintro e w5 ⟨rfl, rfl⟩
      have h5 := hlimu.take (trimL us').length
      rw [← trimL_prefix] at h5
      clear hlimu hur
      go_wp2_with fail
      refine (ref_short (some ⟨gu, 0, none⟩) (trimL us').length (l1 + 1) S (trimL us') wr h5 HUT2.out.trim rfl (by have := HTU.out; have := HUL2.out; have := HLE.out; omega) HSF.out.1 HSF.out.2.1).mono ?_
      rintro e w6 ⟨Ar, lr, cr, rs, rfl, hrl, hrc, hrl2, hrlim, hrt, -, hrv, hb6⟩
      have HRS := Lib.hid (And.intro hrl (And.intro hrc (And.intro hrl2 (And.intro hrlim (And.intro hrt hrv)))))
      have hor6 := HOR.out.call hb6
      have HB6 := Lib.hid (HB.out.trans (hb6.mono HB.out.size))
      clear hrl hrc hrl2 hrlim hrt hrv hb6 h5
      have hlimo := hor6.lim (B := w6.heap.size) hor6.lt
      go_wp2_with fail
      refine (ref_low (some ⟨go_, 0, none⟩) m m os w6 hlimo HOL.out.symm (Nat.le_refl _) (by have := HM.out; have := HLE.out; omega)).mono ?_
      rintro e w7 ⟨rfl, rfl⟩
      go_wp2_with fail
      go_ret2
      have h7 := hlimo.take (trimL os).length
      rw [← trimL_prefix] at h7
      refine ⟨some ⟨go_, 0, none⟩, (trimL os).length, m, trimL os, Ar, lr, cr, rs, rfl, rfl, by have := HTO.out; have := HOL.out; omega, by have := HTO.out; have := HOL.out; have := HM.out; have := EN.out; have := HLE.out; omega, h7, HOT.out.trim, by rw [val32_trim]; exact HQR.out.1, HRS.out.1, HRS.out.2.1, ?_, HRS.out.2.2.2.1, HRS.out.2.2.2.2.1, ?_, HB6.out⟩
      · have := HRS.out.2.2.1
        have := HTU.out
        have := HUL2.out
        omega
      · rw [HRS.out.2.2.2.2.2, val32_trim, HQR.out.2, Nat.mul_div_cancel _ (show 0 < S from HSF.out.1)]
    · have e1 : ((p + 1 : Nat) : Int) - 1 = (p : Int) := by omega
      have hp0 : (0 : Int) ≤ (p : Int) := by omega
      rw [e1]
      have HP := Lib.hid (show p + (n + 1) ≤ us'.length by rw [HUL2.out]; have := HM.out; have := EN.out; have := HLE.out; have := HK.out; omega)
      have hpI : (p : Int) + (l2 : Int) < (l1 : Int) + 1 := by have := HM.out; have := HLE.out; have := HK.out; omega
      obtain ⟨d, hd⟩ : ∃ d, p + l2 = d := ⟨_, rfl⟩
      have hdI : (p : Int) + (l2 : Int) = (d : Int) := by omega
      obtain ⟨d1, hd1⟩ : ∃ d1, p + n = d1 := ⟨_, rfl⟩
      have hd1I : (d : Int) - 1 = (d1 : Int) := by omega
      have hdl : (d : Int) < (l1 : Int) + 1 := by omega
      have hd1l : (d1 : Int) < (l1 : Int) + 1 := by omega
      obtain ⟨hi, hhi⟩ : ∃ hi, us'.getD d 0 = hi := ⟨_, rfl⟩
      obtain ⟨lo, hlo⟩ : ∃ lo, us'.getD d1 0 = lo := ⟨_, rfl⟩
      obtain ⟨vt, hvt⟩ : ∃ vt, vs.getD n 0 = vt := ⟨_, rfl⟩
      have hci := hur.cell (k := d) (by rw [HUL2.out]; omega)
      have hcl := hur.cell (k := d1) (by rw [HUL2.out]; omega)
      have hcv := hvr.cell (k := n) (by rw [HVL.out, EN.out]; omega)
      rw [hhi] at hci
      rw [hlo] at hcl
      rw [hvt] at hcv
      have HHI := Lib.hid (show hi < W32 ∧ lo < W32 ∧ vt < W32 from ⟨by rw [← hhi]; exact HUT2.out.getD d, by rw [← hlo]; exact HUT2.out.getD d1, by rw [← hvt]; exact HVT.out.getD n⟩)
      obtain ⟨h32, hh32⟩ : ∃ h32, hi * 4294967296 = h32 := ⟨_, rfl⟩
      obtain ⟨top, htop⟩ : ∃ top, h32 + lo = top := ⟨_, rfl⟩
      have HTW := Lib.hid (show top < W64 ∧ h32 < W64 by have h := HHI.out; rw [W32_eq] at h; rw [W64_eq]; omega)
      have hh32I : (hi : Int) * 4294967296 = (h32 : Int) := by omega
      have htopI : (h32 : Int) + (lo : Int) = (top : Int) := by omega
      have wh : IntKind.u64.wrap (h32 : Int) = (h32 : Int) := wrap64_in HTW.out.2
      have wtp : IntKind.u64.wrap (top : Int) = (top : Int) := wrap64_in HTW.out.1
      have HTOP := Lib.hid (show lo + W32 * hi = top by rw [W32_eq]; omega)
      have HDD := Lib.hid (show us'.getD (p + n) 0 = lo ∧ us'.getD (p + (n + 1)) 0 = hi ∧ vs.getD n 0 = vt from ⟨by rw [hd1, hlo], by rw [show p + (n + 1) = d by have := EN.out; omega, hhi], hvt⟩)
      clear hhi hlo hvt hh32 htop hd hd1 e1
      go_wp2_with fail
      go_quiet (fail)
      have hur2 := hur.drewN nq
      have hvr2 := hvr.drewN nq
      have hor2 := hor.drewN nq
      have HB2' := Lib.hid (below_drewN HB.out nq)
      have hcv2 : (wr.drewN nq).cell? ⟨gv, n, none⟩ = some (.int .u64 (vt : Int)) := hcv
      generalize wr.drewN nq = wq at hur2 hvr2 hor2 HB2' hcv2 ⊢
      have HVT0 := Lib.hid (show 1 ≤ vt from by
        have h1 := val32_take_step vs n
        rw [List.take_of_length_le (by rw [HVL.out, EN.out]; exact Nat.le_refl _), HV.out, HDD.out.2.2] at h1
        have h2 := val32_lt (HVT.out.take n)
        rw [List.length_take, Nat.min_eq_left (by rw [HVL.out, EN.out]; omega)] at h2
        have h3 := HVL2.out.2.2
        have h4 := Nat.le_mul_of_pos_right (W32 ^ n) (show 0 < S from HSF.out.1)
        rcases Nat.eq_zero_or_pos vt with h0 | h0
        · subst h0
          rw [Nat.mul_zero] at h1
          omega
        · exact h0)
      have hvt0 : ¬ (vt : Int) = 0 := by have := HVT0.out; omega
      have hvt0b : ((vt : Int) == 0) = false := beq_eq_false_iff_ne.2 hvt0
      have hvt0n : ¬ vt = 0 := by have := HVT0.out; omega
      obtain ⟨qt, hqt⟩ : ∃ qt, top / vt = qt := ⟨_, rfl⟩
      have hqtI : (top : Int) / (vt : Int) = (qt : Int) := by rw [← hqt]; simp
      have wqt : IntKind.u64.wrap (qt : Int) = (qt : Int) := wrap64_in (by rw [← hqt]; exact Nat.lt_of_le_of_lt (Nat.div_le_self _ _) HTW.out.1)
      have HQT := Lib.hid hqt
      clear hci hcl hcv hur hvr hor HB hh32I htopI wh wtp hqt
      go_wp2_with fail
      obtain ⟨q0, hq0⟩ : ∃ q0, min qt 4294967295 = q0 := ⟨_, rfl⟩
      have hq0I : min (qt : Int) 4294967295 = (q0 : Int) := by omega
      have HQ0 := Lib.hid (show q0 < W32 by rw [W32_eq]; omega)
      obtain ⟨win, hwin⟩ : ∃ win, (us'.drop p).take (n + 1 + 1) = win := ⟨_, rfl⟩
      have HWIN := Lib.hid hwin
      have HOW := Lib.hid (over_win32 HUT2.out (p := p) (lb := n + 1) (by rw [HUL2.out]; have := HM.out; have := EN.out; have := HLE.out; have := HK.out; omega) HVL2.out.1 HLT.out)
      have HQQ := Lib.hid (show val32 win / V ≤ q0 from by
        have hwl : win.length = n + 2 := by rw [← hwin, List.length_take, List.length_drop, HUL2.out]; have := HM.out; have := EN.out; have := HLE.out; have := HK.out; omega
        have hwt : Tiny win := by rw [← hwin]; exact (show Tiny (us'.drop p) from fun y hy => HUT2.out y (List.mem_of_mem_drop hy)).take _
        have h1 := guess_ge32 (vs := vs) hwt (n := n) (by rw [HVL.out, EN.out]) hwl
        have g0 : win.getD n 0 = lo := by rw [← hwin, win_get us' p (n + 1 + 1) n (by omega), HDD.out.1]
        have g1 : win.getD (n + 1) 0 = hi := by rw [← hwin, win_get us' p (n + 1 + 1) (n + 1) (by omega), HDD.out.2.1]
        rw [HV.out, HDD.out.2.2, g0, g1, HTOP.out] at h1
        have h2 : val32 win / V ≤ qt := by rw [← HQT.out]; exact (Nat.le_div_iff_mul_le HVT0.out).2 h1
        have h3 : val32 win / V < W32 := by
          have h4 := HOW.out.1
          rw [hwin] at h4
          exact Nat.div_lt_of_lt_mul h4
        rw [W32_eq] at h3
        omega)
      rw [hq0I]
      clear hq0 hq0I hwin hqtI wqt hvt0 hvt0b hvt0n hcv2
      go_loopw [12] (fun t12 wr => ∃ q : Nat, t12 = .int .u64 (q : Int) ∧ val32 win / V ≤ q ∧ q < W32 ∧ Row wr gu us' ∧ Row wr gv vs ∧ Row wr go_ os ∧ Below w.heap.size w wr) (fun t12 _ => (intOf t12).toNat)
      case atStart => exact ⟨q0, rfl, HQQ.out, HQ0.out, hur2, hvr2, hor2, HB2'.out⟩
      case round =>
        clear hur2 hvr2 hor2
        obtain ⟨q, rfl, hqge, hqw, hur, hvr, hor, hb⟩ := hrel
        have HQG := Lib.hid hqge
        have HQW := Lib.hid hqw
        have HBR := Lib.hid hb
        clear hqge hqw hb
        have e2 : (us'.drop p).take (l2 + 1) = win := by rw [EN.out]; exact HWIN.out
        have HE2 := Lib.hid e2
        have hlimv := hvr.lim (B := wr.heap.size) hvr.lt
        have kl := ref_less gu (l1 + 1) (l1 + 1) p l2 q us' (some ⟨gv, 0, none⟩) l2 vs wr hur HUL2.out.symm (by have h := HP.out; rw [EN.out]; have h3 := HUL2.out; have h4 := HM.out; have h5 := HK.out; have h6 := HLE.out; have h7 := EN.out; omega) HUT2.out hlimv HVT.out HVL.out.symm HQW.out (by rw [HUL2.out]; have := HLE.out; omega)
        rw [HV.out, e2] at kl
        clear e2 hlimv
        go_wp2_with fail
        refine kl.mono ?_
        clear kl
        rintro e w5 ⟨us2, rfl, hur5, hgr, htk, hno⟩
        have hvr5 := hvr.grown hgr (by have := HGV.out; omega)
        have hor5 := hor.grown hgr (by have := HGO.out; omega)
        have HB5 := Lib.hid (below_of_grown HBR.out hgr HGU.out)
        clear hur hvr hor hgr
        by_cases hfit : V * q ≤ val32 win
        · rw [decide_eq_true hfit]
          have HTK := Lib.hid (htk hfit)
          have HQE := Lib.hid (show q = val32 win / V from by
            have h1 : q ≤ val32 win / V := (Nat.le_div_iff_mul_le HVL2.out.2.1).2 (by rw [Nat.mul_comm]; exact hfit)
            have := HQG.out
            omega)
          clear hfit htk hno
          have HPO := Lib.hid (show p < os.length by rw [HOL.out]; have := HK.out; omega)
          have hpm : (p : Int) < (m : Int) := by have := HK.out; omega
          have hfo := hor5.free p
          have hco := hor5.cell (k := p) HPO.out
          have HTH := HTK.out.is
          go_wp2_with fail
          have HSTP := over_step32 (us := us') (us' := us2) (os := os) (q := q) HUT2.out HTK.out.len (p := p) (lb := n + 1) (by rw [HUL2.out]; have := HM.out; have := EN.out; have := HLE.out; have := HK.out; omega) HVL2.out.2.1 HVL2.out.1 HLT.out HVAL.out (by rw [HWIN.out]; exact HQE.out) HTK.out.low (by have h := HTK.out.high; rwa [EN.out] at h) (by
            have h := HTK.out.is
            rw [HE2.out, EN.out] at h
            rw [HWIN.out]
            have h2 := Nat.div_add_mod (val32 win) V
            rw [← HQE.out] at h2
            omega) HPO.out
          exact ⟨⟨p, us2, os.set p q, by have := HK.out; omega, rfl, hur5.far (by have := HGO.out; show gu ≠ go_; omega) _, hvr5.far (by have := HGO.out; show gv ≠ go_; omega) _, hor5.set HPO.out (Nat.lt_trans HQW.out W32_lt), by rw [HTK.out.len, HUL2.out], HTK.out.tiny, by rw [List.length_set, HOL.out], HOT.out.set _ _ HQW.out, HSTP.1, HSTP.2, HB5.out.setCell HGO.out.1 _⟩, by simp [intOf]⟩
        · rw [decide_eq_false hfit]
          have HEQ := Lib.hid (hno hfit)
          have HQ1 := Lib.hid (show val32 win / V + 1 ≤ q from by
            have h1 : ¬ q ≤ val32 win / V := fun h => hfit (by rw [Nat.mul_comm]; exact (Nat.le_div_iff_mul_le HVL2.out.2.1).1 h)
            omega)
          obtain ⟨q1, hq1⟩ : ∃ q1, q - 1 = q1 := ⟨_, rfl⟩
          have hq11 : 1 ≤ q := Nat.le_trans (Nat.le_add_left 1 _) HQ1.out
          have hq1I : (q : Int) - 1 = (q1 : Int) := by omega
          have wq1 : IntKind.u64.wrap (q1 : Int) = (q1 : Int) := wrap64_in (by have := HQW.out; have := W32_lt; omega)
          have HQQ1 := Lib.hid (show val32 win / V ≤ q1 ∧ q1 < W32 ∧ q1 < q from by have := HQ1.out; have := HQW.out; omega)
          clear hfit htk hno hq1 hq11
          go_wp2_with fail
          refine ⟨⟨q1, rfl, HQQ1.out.1, HQQ1.out.2.1, ?_, hvr5, hor5, HB5.out⟩, by simp [intOf]; have := HQQ1.out.2.2; omega⟩
          rw [← HEQ.out]
          exact hur5
end Go.Proofs.YtonbhpadoplpkaaGreat
