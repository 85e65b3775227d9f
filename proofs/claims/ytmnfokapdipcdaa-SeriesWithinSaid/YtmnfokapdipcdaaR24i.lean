import Derived.Test.YtmnfokapdipcdaaR24h
/- The package rosetteref24: Within. -/
namespace Go.Proofs.Ytmnfokapdipcdaa
open Go.RowKit Go.Deep
/-! ### plain -/
theorem nought_zAt {xs : List Raw} {k : Nat} (h : noughtAt xs k = true) : zAt xs k = 0 := by
  unfold noughtAt at h
  rw [beq_iff_eq, List.length_eq_zero_iff] at h
  unfold zAt
  rw [h]
  cases (xs.getD k (false, [])).1 <;> rfl
theorem within_same {xp xq : List Raw} {n : Nat} (h : noughtAt xq 0 = true) : toldZ (sumP (zAt xp) (zAt xq) n) n = toldZ (hornZ (zAt xp) (zAt xq) (min xp.length n) (min xp.length n)) n := by
  have hq := nought_zAt h
  refine toldZ_congr fun m hm => ?_
  rw [sumP_all _ hq hm, horn_is hq fun j hj hk => zAt_past (by omega)]
/-- A bound for the numbers that the reference makes, of numbers of t limbs. -/
theorem ref_lc {n t : Nat} (hn : n ≤ 10) (ht : t = 4) : lc (4096 * ((4096 * W64 ^ t) ^ n * W64 ^ t)) ≤ 67108864 := by
  have h1 : 4096 * ((4096 * W64 ^ t) ^ n * W64 ^ t) = (4096 * W64 ^ t) ^ (n + 1) := by
    rw [Nat.pow_succ]
    generalize (4096 * W64 ^ t) ^ n = P
    generalize W64 ^ t = Q
    grind
  rw [h1]
  refine lc_pow_le (b := 12 + 64 * t) ?_ (Nat.le_of_eq (by rw [W64_two, ← Nat.pow_mul, show (4096 : Nat) = 2 ^ 12 from rfl, ← Nat.pow_add]))
  subst ht
  omega
set_option maxHeartbeats 1000000 in
set_option maxRecDepth 100000 in
theorem r24_Within (Ap Aq : Option Addr) (lp cp lq cq : Nat) (xp xq : List Raw) (terms : Int) (w : World) (hp : Poly w w.heap.size Ap xp) (hq : Poly w w.heap.size Aq xq) (hlp : lp = xp.length) (hlq : lq = xq.length)
    (ht : terms ≤ 10 ∨ 4096 < terms) (hsp : ∀ x ∈ xp, x.2.length ≤ 4) (hsq : ∀ x ∈ xq, x.2.length ≤ 4) :
    Calls Try.prog 24 #[.slice Ap lp cp, .slice Aq lq cq, .int .i64 terms] w fun e w' => ∃ v, e = .returned (.tuple #[v, .int .i64 (withinR xp xq terms).2]) ∧ Told w' w.heap.size v (withinR xp xq terms).1 ∧ Below w.heap.size w w' := by
  have HLP := Lib.hid hlp
  have HLQ := Lib.hid hlq
  have HT := Lib.hid ht
  have HSP := Lib.hid hsp
  have HSQ := Lib.hid hsq
  obtain ⟨E, hE⟩ : ∃ E, mayE terms [xp, xq] = E := ⟨_, rfl⟩
  have HM := Lib.hid hE
  obtain ⟨un, hun⟩ : ∃ un, noughtAt xq 0 = un := ⟨_, rfl⟩
  have HU := Lib.hid hun
  have HO := Lib.hid (show withinR xp xq terms = if E ≠ 0 then ([], E) else if un then toldZ (hornZ (zAt xp) (zAt xq) (min xp.length terms.toNat) (min xp.length terms.toNat)) terms.toNat else ([], 340) by rw [withinR, hE, hun])
  have HB := Lib.hid (beginE_may terms xp xq)
  obtain ⟨rp, hrp⟩ : ∃ r, rightPoly xp = r := ⟨_, rfl⟩
  obtain ⟨rq, hrq⟩ : ∃ r, rightPoly xq = r := ⟨_, rfl⟩
  have HRP := Lib.hid hrp
  have HRQ := Lib.hid hrq
  clear hlp hlq hE hun hrp hrq ht hsp hsq
  go_enter Try.func24, Try.ntmps24
  go_upto_region 1 with (fail)
  go_cut [8] (fun t8 wx => Below w.heap.size w wx ∧ t8 = .int .i64 E)
  case first =>
    go_wp2_with fail
    refine (r24_right Ap lp cp xp w hp HLP.out).mono ?_
    rintro e w1 ⟨rfl, hb1⟩
    rw [HRP.out]
    cases rp with
    | true =>
      go_wp2_with fail
      refine (r24_right Aq lq cq xq w1 ((hq.below hb1).more hb1.size) HLQ.out).mono ?_
      rintro e w2 ⟨rfl, hb2⟩
      rw [HRQ.out]
      go_wp2_with fail
      refine (r24_begin terms rq w2).mono ?_
      rintro e w3 ⟨rfl, rfl⟩
      have HE := Lib.hid (show beginE terms rq = E by
        have h := HB.out
        rw [HRP.out, HRQ.out, Bool.true_and, HM.out] at h
        exact h)
      rw [HE.out]
      go_wp2_with fail
      go_meet
      exact ⟨hb1.trans (hb2.mono hb1.size), rfl⟩
    | false =>
      go_wp2_with fail
      refine (r24_begin terms false w1).mono ?_
      rintro e w3 ⟨rfl, rfl⟩
      have HE := Lib.hid (show beginE terms false = E by
        have h := HB.out
        rw [HRP.out, Bool.false_and, HM.out] at h
        exact h)
      rw [HE.out]
      go_wp2_with fail
      go_meet
      exact ⟨hb1, rfl⟩
  case rest =>
    obtain ⟨hbc, rfl⟩ := hcut
    have hqc := (hq.below hbc).more hbc.size
    by_cases hE0 : E = 0
    · subst hE0
      obtain ⟨h0, h4, hr⟩ := mayE_zero HM.out
      obtain ⟨n, rfl⟩ : ∃ n : Nat, terms = (n : Int) := ⟨terms.toNat, by omega⟩
      clear hr
      have hpart : (lq = 0 ∧ un = true) ∨ (∃ ad Am lm cm, 0 < lq ∧ Aq = some ad ∧ wc.cell? ad = some (.bool (xq.getD 0 (false, [])).1) ∧ wc.cell? ⟨ad.block, ad.off + 1, none⟩ = some (.slice Am lm cm) ∧ un = decide (lm = 0)) := by
        by_cases hl : lq = 0
        · left
          refine ⟨hl, ?_⟩
          rw [← HU.out]
          unfold noughtAt
          have hx : xq = [] := List.eq_nil_of_length_eq_zero (by rw [← HLQ.out]; exact hl)
          rw [hx]; rfl
        · right
          obtain ⟨ad, Am, lm, cm, e1, _, hc0, hc1, hlm, hcm, _⟩ := hqc.at_ (k := 0) (by rw [← HLQ.out]; omega)
          have e0 : ad.add (0 * 2) = ad := by rw [Nat.zero_mul]; rfl
          rw [e0] at hc0 hc1
          refine ⟨ad, Am, lm, cm, by omega, e1, hc0, hc1, ?_⟩
          rw [← HU.out, hlm]
          unfold noughtAt
          cases (xq.getD 0 (false, [])).2 <;> rfl
      cases un with
      | false =>
        have HE := Lib.hid (show withinR xp xq (n : Int) = ([], 340) by rw [HO.out]; rfl)
        clear HO
        rcases hpart with ⟨_, h⟩ | ⟨ad, Am, lm, cm, hl, rfl, hc0, hc1, h⟩
        · cases h
        · have hlm : (0 : Int) < (lm : Int) := by have := of_decide_eq_false h.symm; omega
          have hlI : (0 : Int) < (lq : Int) := by omega
          clear h
          go_wp2_with fail
          go_ret2
          rw [HE.out]
          exact ⟨_, rfl, Told.nil _ hbc.size, hbc⟩
      | true =>
        have HO2 := Lib.hid (show withinR xp xq (n : Int) = toldZ (sumP (zAt xp) (zAt xq) n) n by rw [HO.out, within_same HU.out]; rfl)
        clear HO
        have HN := Lib.hid (show n ≤ 10 by have := HT.out; omega)
        have hpc := (hp.below hbc).more hbc.size
        have hI : (lq : Int) = 0 ∨ ∃ ad Am lm cm, (0 : Int) < (lq : Int) ∧ 0 < lq ∧ Aq = some ad ∧ wc.cell? ad = some (.bool (xq.getD 0 (false, [])).1) ∧ wc.cell? ⟨ad.block, ad.off + 1, none⟩ = some (.slice Am lm cm) ∧ lm = 0 := by
          rcases hpart with ⟨h, _⟩ | ⟨ad, Am, lm, cm, hl, h1, hc0, hc1, h⟩
          · left; omega
          · right; exact ⟨ad, Am, lm, cm, by omega, hl, h1, hc0, hc1, of_decide_eq_true h.symm⟩
        clear hpart
        rcases hI with hl0 | ⟨ad, Am, lm, cm, hlI, hlN, rfl, hc0, hc1, rfl⟩
        · have HL0 := Lib.hid hl0
          obtain rfl : lq = 0 := by omega
          clear hl0
          go_wp2_with fail
          refine (r24_Series Ap lp cp n xp wc hpc HLP.out (by have := HN.out; omega) (fun x hx => Nat.le_trans (HSP.out x hx) (by omega))).mono ?_
          rintro e w2 ⟨v2, rfl, hr2, hb2⟩
          obtain ⟨A2, c2, rfl, _⟩ := hr2.form
          go_wp2_with fail
          refine (r24_Series _ _ cq n xq w2 ((hqc.below hb2).more hb2.size) HLQ.out (by have := HN.out; omega) (fun x hx => Nat.le_trans (HSQ.out x hx) (by omega))).mono ?_
          rintro e w3 ⟨v3, rfl, hr3, hb3⟩
          obtain ⟨A3, c3, rfl, _⟩ := hr3.form
          obtain ⟨t, ht4⟩ : ∃ t, t = 4 := ⟨_, rfl⟩
          have HA := Lib.hid (zAt_small (t := t) (fun x hx => by have := HSP.out x hx; omega) hp.small)
          have HBz := Lib.hid (zAt_small (t := t) (fun x hx => by have := HSQ.out x hx; omega) hq.small)
          have hlc := Lib.hid (ref_lc HN.out ht4)
          have HR2 := Lib.hid (hr2.below hb3)
          have HR3 := Lib.hid hr3
          clear hr2 hr3
          go_wp2_with fail
          simp only [firstZ_len] at HR2 HR3 ⊢
          refine (r24_within _ _ n _ _ (W64 ^ t) (zAt xp) (zAt xq) w3 HR2.out HR3.out (by have := HN.out; omega) (Nat.pow_pos W64_pos) hlc.out (fun k _ => HA.out k) (fun k _ => HBz.out k)).mono ?_
          rintro e w4 ⟨v4, rfl, hr4, hb4⟩
          have HLen := Lib.hid (show ∀ k, k < n → (limbs (sumP (zAt xp) (zAt xq) n k).natAbs).length ≤ 137438953472 from fun k hk => Nat.le_trans (times_len3 hlc.out (Nat.le_refl n) (by have := HN.out; omega) (sumP_small (by have := HN.out; omega) (Nat.pow_pos W64_pos) (fun j _ => HA.out j) (fun j _ => HBz.out j) k hk n (Nat.le_refl n))) (by omega))
          obtain ⟨A4, c4, rfl, _⟩ := hr4.form
          have HR4 := Lib.hid hr4
          clear hr4
          go_wp2_with fail
          simp only [firstZ_len] at HR4 ⊢
          refine (r24_told _ n w3.heap.size _ w4 HR4.out (by have := HN.out; omega) HLen.out).mono ?_
          rintro e w5 ⟨v, rfl, ht, hb5⟩
          have hb35 := hb2.trans (hb3.mono hb2.size)
          have hb45 := hb35.trans (hb4.mono hb35.size)
          have hbw4 := hbc.trans (hb45.mono hbc.size)
          go_wp2_with fail
          go_ret2
          rw [HO2.out]
          exact ⟨v, rfl, ht.since hbw4.size, hbw4.trans (hb5.mono hbw4.size)⟩
        · go_wp2_with fail
          refine (r24_Series Ap lp cp n xp wc hpc HLP.out (by have := HN.out; omega) (fun x hx => Nat.le_trans (HSP.out x hx) (by omega))).mono ?_
          rintro e w2 ⟨v2, rfl, hr2, hb2⟩
          obtain ⟨A2, c2, rfl, _⟩ := hr2.form
          go_wp2_with fail
          refine (r24_Series _ _ cq n xq w2 ((hqc.below hb2).more hb2.size) HLQ.out (by have := HN.out; omega) (fun x hx => Nat.le_trans (HSQ.out x hx) (by omega))).mono ?_
          rintro e w3 ⟨v3, rfl, hr3, hb3⟩
          obtain ⟨A3, c3, rfl, _⟩ := hr3.form
          obtain ⟨t, ht4⟩ : ∃ t, t = 4 := ⟨_, rfl⟩
          have HA := Lib.hid (zAt_small (t := t) (fun x hx => by have := HSP.out x hx; omega) hp.small)
          have HBz := Lib.hid (zAt_small (t := t) (fun x hx => by have := HSQ.out x hx; omega) hq.small)
          have hlc := Lib.hid (ref_lc HN.out ht4)
          have HR2 := Lib.hid (hr2.below hb3)
          have HR3 := Lib.hid hr3
          clear hr2 hr3
          go_wp2_with fail
          simp only [firstZ_len] at HR2 HR3 ⊢
          refine (r24_within _ _ n _ _ (W64 ^ t) (zAt xp) (zAt xq) w3 HR2.out HR3.out (by have := HN.out; omega) (Nat.pow_pos W64_pos) hlc.out (fun k _ => HA.out k) (fun k _ => HBz.out k)).mono ?_
          rintro e w4 ⟨v4, rfl, hr4, hb4⟩
          have HLen := Lib.hid (show ∀ k, k < n → (limbs (sumP (zAt xp) (zAt xq) n k).natAbs).length ≤ 137438953472 from fun k hk => Nat.le_trans (times_len3 hlc.out (Nat.le_refl n) (by have := HN.out; omega) (sumP_small (by have := HN.out; omega) (Nat.pow_pos W64_pos) (fun j _ => HA.out j) (fun j _ => HBz.out j) k hk n (Nat.le_refl n))) (by omega))
          obtain ⟨A4, c4, rfl, _⟩ := hr4.form
          have HR4 := Lib.hid hr4
          clear hr4
          go_wp2_with fail
          simp only [firstZ_len] at HR4 ⊢
          refine (r24_told _ n w3.heap.size _ w4 HR4.out (by have := HN.out; omega) HLen.out).mono ?_
          rintro e w5 ⟨v, rfl, ht, hb5⟩
          have hb35 := hb2.trans (hb3.mono hb2.size)
          have hb45 := hb35.trans (hb4.mono hb35.size)
          have hbw4 := hbc.trans (hb45.mono hbc.size)
          go_wp2_with fail
          go_ret2
          rw [HO2.out]
          exact ⟨v, rfl, ht.since hbw4.size, hbw4.trans (hb5.mono hbw4.size)⟩
    · have HE := Lib.hid (show withinR xp xq terms = ([], E) by rw [HO.out, if_pos hE0])
      have tE : (E == 0) = false := beq_eq_false_iff_ne.2 hE0
      have tE2 : (E != 0) = true := by rw [bne, tE]; rfl
      clear HO hE0
      go_wp2_with fail
      go_ret2
      rw [HE.out]
      exact ⟨_, rfl, Told.nil _ hbc.size, hbc⟩
end Go.Proofs.Ytmnfokapdipcdaa
