import Derived.Test.YtmnfokapdipcdaaR24d
/- The package rosetteref24: Over, Inverse. -/
namespace Go.Proofs.Ytmnfokapdipcdaa
open Go.RowKit Go.Deep
theorem beginE_may (terms : Int) (xp xq : List Raw) : beginE terms (rightPoly xp && rightPoly xq) = mayE terms [xp, xq] := by
  unfold beginE mayE
  have e : [xp, xq].all rightPoly = (rightPoly xp && rightPoly xq) := by simp
  rw [e]
  cases rightPoly xp && rightPoly xq
  · by_cases h : terms < 0 <;> simp [h]
  · by_cases h : terms < 0 <;> simp [h]
theorem unit_one {xq : List Raw} (h : unitAt xq 0 = true) : (zAt xq 0).natAbs = 1 := by
  unfold unitAt at h
  simp only [Bool.and_eq_true, beq_iff_eq] at h
  unfold zAt
  rw [signed_natAbs]
  obtain ⟨h1, h2⟩ := h
  match hx : (xq.getD 0 (false, [])).2 with
  | [] => rw [hx] at h1; cases h1
  | [x] => rw [hx] at h2; simp at h2; subst h2; simp [val]
  | _ :: _ :: _ => rw [hx] at h1; simp at h1
set_option maxHeartbeats 1000000 in
set_option maxRecDepth 100000 in
theorem r24_Over (Ap Aq : Option Addr) (lp cp lq cq : Nat) (xp xq : List Raw) (terms : Int) (w : World) (hp : Poly w w.heap.size Ap xp) (hq : Poly w w.heap.size Aq xq) (hlp : lp = xp.length) (hlq : lq = xq.length) :
    Calls Try.prog 21 #[.slice Ap lp cp, .slice Aq lq cq, .int .i64 terms] w fun e w' => ∃ v, e = .returned (.tuple #[v, .int .i64 (overR xp xq terms).2]) ∧ Told w' w.heap.size v (overR xp xq terms).1 ∧ Below w.heap.size w w' := by
  have HLP := Lib.hid hlp
  have HLQ := Lib.hid hlq
  obtain ⟨E, hE⟩ : ∃ E, mayE terms [xp, xq] = E := ⟨_, rfl⟩
  have HM := Lib.hid hE
  obtain ⟨un, hun⟩ : ∃ un, unitAt xq 0 = un := ⟨_, rfl⟩
  have HU := Lib.hid hun
  have HO := Lib.hid (show overR xp xq terms = if E ≠ 0 then ([], E) else if un then toldZ (overZ (zAt xp) (zAt xq)) terms.toNat else ([], 340) by rw [overR, hE, hun])
  have HB := Lib.hid (beginE_may terms xp xq)
  obtain ⟨rp, hrp⟩ : ∃ r, rightPoly xp = r := ⟨_, rfl⟩
  obtain ⟨rq, hrq⟩ : ∃ r, rightPoly xq = r := ⟨_, rfl⟩
  have HRP := Lib.hid hrp
  have HRQ := Lib.hid hrq
  clear hlp hlq hE hun hrp hrq
  go_enter Try.func21, Try.ntmps21
  go_upto_region 1 with (fail)
  go_cut [8] (fun t8 wx => Below w.heap.size w wx ∧ t8 = .int .i64 E)
  case first =>
    go_wp2_with fail
    refine (r24_right Ap lp cp xp w hp HLP.out).mono ?_
    rintro e w1 ⟨rfl, hb1⟩
    rw [HRP.out]
    cases rp with
    | true =>
      go_wp2_with fail
      refine (r24_right Aq lq cq xq w1 ((hq.below hb1).more hb1.size) HLQ.out).mono ?_
      rintro e w2 ⟨rfl, hb2⟩
      rw [HRQ.out]
      go_wp2_with fail
      refine (r24_begin terms rq w2).mono ?_
      rintro e w3 ⟨rfl, rfl⟩
      have HE := Lib.hid (show beginE terms rq = E by
        have h := HB.out
        rw [HRP.out, HRQ.out, Bool.true_and, HM.out] at h
        exact h)
      rw [HE.out]
      go_wp2_with fail
      go_meet
      exact ⟨hb1.trans (hb2.mono hb1.size), rfl⟩
    | false =>
      go_wp2_with fail
      refine (r24_begin terms false w1).mono ?_
      rintro e w3 ⟨rfl, rfl⟩
      have HE := Lib.hid (show beginE terms false = E by
        have h := HB.out
        rw [HRP.out, Bool.false_and, HM.out] at h
        exact h)
      rw [HE.out]
      go_wp2_with fail
      go_meet
      exact ⟨hb1, rfl⟩
  case rest =>
    obtain ⟨hbc, rfl⟩ := hcut
    have hqc := (hq.below hbc).more hbc.size
    by_cases hE0 : E = 0
    · subst hE0
      obtain ⟨h0, h4, hr⟩ := mayE_zero HM.out
      obtain ⟨n, rfl⟩ : ∃ n : Nat, terms = (n : Int) := ⟨terms.toNat, by omega⟩
      have HSP := Lib.hid (right_len (hr xp (by simp))).2
      have HSQ := Lib.hid (right_len (hr xq (by simp))).2
      clear hr
      go_wp2_with fail
      refine (r24_unit 0 Aq lq cq xq wc hqc HLQ.out).mono ?_
      rintro e w2 ⟨rfl, rfl⟩
      rw [HU.out]
      cases un with
      | false =>
        have HE := Lib.hid (show overR xp xq (n : Int) = ([], 340) by rw [HO.out]; rfl)
        clear HO
        go_wp2_with fail
        go_ret2
        rw [HE.out]
        exact ⟨_, rfl, Told.nil _ hbc.size, hbc⟩
      | true =>
        have HO2 := Lib.hid (show overR xp xq (n : Int) = toldZ (overZ (zAt xp) (zAt xq)) n by rw [HO.out]; rfl)
        clear HO
        have HN := Lib.hid (show n ≤ 4096 by omega)
        have HU1 := Lib.hid (unit_one HU.out)
        have hpc := (hp.below hbc).more hbc.size
        go_wp2_with fail
        refine (r24_Series Ap lp cp n xp wc hpc HLP.out HN.out (fun x hx => Nat.le_trans (HSP.out x hx) (by omega))).mono ?_
        rintro e w2 ⟨v2, rfl, hr2, hb2⟩
        obtain ⟨A2, c2, rfl, _⟩ := hr2.form
        go_wp2_with fail
        refine (r24_Series Aq lq cq n xq w2 ((hqc.below hb2).more hb2.size) HLQ.out HN.out (fun x hx => Nat.le_trans (HSQ.out x hx) (by omega))).mono ?_
        rintro e w3 ⟨v3, rfl, hr3, hb3⟩
        obtain ⟨A3, c3, rfl, _⟩ := hr3.form
        have HA := Lib.hid (zAt_small HSP.out hp.small)
        have HBz := Lib.hid (zAt_small HSQ.out hq.small)
        have hlc := Lib.hid (lc_bound HN.out)
        have HR2 := Lib.hid (hr2.below hb3)
        have HR3 := Lib.hid hr3
        clear hr2 hr3
        go_wp2_with fail
        simp only [firstZ_len] at HR2 HR3 ⊢
        refine (r24_over _ _ n _ _ (W64 ^ 4096) (zAt xp) (zAt xq) w3 HR2.out HR3.out HN.out (Nat.pow_pos W64_pos) hlc.out (fun k _ => HA.out k) (fun k _ => HBz.out k) HU1.out).mono ?_
        rintro e w4 ⟨v4, rfl, hr4, hb4⟩
        have HLen := Lib.hid (show ∀ k, k < n → (limbs (overZ (zAt xp) (zAt xq) k).natAbs).length ≤ 137438953472 from fun k hk => Nat.le_trans (len_of_pow2 (Nat.pow_pos W64_pos) (show k + 1 ≤ n + 1 by omega) (overZ_small (Nat.pow_pos W64_pos) (fun j _ => HA.out j) (fun j _ => HBz.out j) k hk) hlc.out) (by omega))
        obtain ⟨A4, c4, rfl, _⟩ := hr4.form
        have HR4 := Lib.hid hr4
        clear hr4
        go_wp2_with fail
        simp only [firstZ_len] at HR4 ⊢
        refine (r24_told _ n w3.heap.size _ w4 HR4.out HN.out HLen.out).mono ?_
        rintro e w5 ⟨v, rfl, ht, hb5⟩
        have hb35 := hb2.trans (hb3.mono hb2.size)
        have hb45 := hb35.trans (hb4.mono hb35.size)
        have hbw4 := hbc.trans (hb45.mono hbc.size)
        go_wp2_with fail
        go_ret2
        rw [HO2.out]
        exact ⟨v, rfl, ht.since hbw4.size, hbw4.trans (hb5.mono hbw4.size)⟩
    · have HE := Lib.hid (show overR xp xq terms = ([], E) by rw [HO.out, if_pos hE0])
      have tE : (E == 0) = false := beq_eq_false_iff_ne.2 hE0
      have tE2 : (E != 0) = true := by rw [bne, tE]; rfl
      clear HO hE0
      go_wp2_with fail
      go_ret2
      rw [HE.out]
      exact ⟨_, rfl, Told.nil _ hbc.size, hbc⟩
set_option maxRecDepth 100000 in
theorem r24_Inverse (Ap : Option Addr) (lp cp : Nat) (xp : List Raw) (terms : Int) (w : World) (hp : Poly w w.heap.size Ap xp) (hlp : lp = xp.length) :
    Calls Try.prog 19 #[.slice Ap lp cp, .int .i64 terms] w fun e w' => ∃ v, e = .returned (.tuple #[v, .int .i64 (overR one1 xp terms).2]) ∧ Told w' w.heap.size v (overR one1 xp terms).1 ∧ Below w.heap.size w w' := by
  have HLP := Lib.hid hlp
  clear hlp
  go_enter Try.func19, Try.ntmps19
  go_wp2_with fail
  have hb : Below w.heap.size w ((w.alloc (.cells #[.int .u64 1] 33)).alloc (.cells #[.bool false, .slice (some ⟨w.heap.size, 0, none⟩) 1 1] 36)) := ((Below.refl _ w).alloc (Nat.le_refl _) _).alloc (by simp) _
  refine (r24_Over _ Ap 1 1 lp cp one1 xp terms _ (by simpa using Poly.one (w := w) (t1 := 33) (t2 := 36)) ((hp.below hb).more hb.size) rfl HLP.out).mono ?_
  rintro e w1 ⟨v, rfl, ht, hb1⟩
  go_wp2_with fail
  go_ret2
  exact ⟨v, rfl, ht.since hb.size, hb.trans (hb1.mono hb.size)⟩
end Go.Proofs.Ytmnfokapdipcdaa
