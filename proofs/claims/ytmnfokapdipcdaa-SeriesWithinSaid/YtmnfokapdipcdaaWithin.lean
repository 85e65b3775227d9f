import Derived.Test.YtmnfokapdipcdaaR24j
/- The law SeriesWithin. -/
namespace Go.Proofs.Ytmnfokapdipcdaa
open Go.RowKit Go.Deep
theorem toldZ_size2 (z : Nat → Int) (n : Nat) : (toldZ z n).1.length ≤ n ∧ ∀ x ∈ (toldZ z n).1, x.2.length ≤ 4096 := by
  unfold toldZ
  split
  · simp
  · rename_i h
    refine ⟨by simpa using topZ_le z n, fun x hx => ?_⟩
    obtain ⟨i, hi, rfl⟩ := List.mem_map.1 hx
    have h1 : ¬ 262144 < nbits (z i).natAbs := fun h2 => h (by
      rw [List.any_eq_true]
      exact ⟨i, hi, decide_eq_true h2⟩)
    have h2 : lc (z i).natAbs ≤ 4096 := lc_le_nbits.2 (by omega)
    exact h2
theorem withinR_size (xp xq : List Raw) (terms : Int) : (withinR xp xq terms).1.length ≤ 4096 ∧ ∀ x ∈ (withinR xp xq terms).1, x.2.length ≤ 4096 := by
  unfold withinR
  split
  · simp
  · rename_i h
    split
    · obtain ⟨h1, h2⟩ := toldZ_size2 (hornZ (zAt xp) (zAt xq) (min xp.length terms.toNat) (min xp.length terms.toNat)) terms.toNat
      have h3 := (mayE_zero (by simpa using h)).2.1
      exact ⟨by omega, h2⟩
    · simp
theorem turnedR_size (xp : List Raw) (terms : Int) : (turnedR xp terms).1.length ≤ 4096 ∧ ∀ x ∈ (turnedR xp terms).1, x.2.length ≤ 4096 := by
  unfold turnedR
  split
  · simp
  · rename_i h
    split
    · obtain ⟨h1, h2⟩ := toldZ_size2 (lagZ (zAt one1) (overZ (zAt one1) (zAt (xp.drop 1)))) terms.toNat
      have h3 := (mayE_zero (by simpa using h)).2.1
      exact ⟨by omega, h2⟩
    · simp
theorem greatP_not {xs : List Raw} {terms most : Int} (h : greatP xs terms most = false) : (terms ≤ most ∨ 4096 < terms) ∧ ∀ x ∈ xs, x.2.length ≤ 4 := by
  unfold greatP at h
  simp only [Bool.or_eq_false_iff, Bool.and_eq_false_iff, decide_eq_false_iff_not, List.any_eq_false, decide_eq_true_eq] at h
  obtain ⟨⟨_, h1⟩, h2⟩ := h
  refine ⟨by omega, fun x hx => ?_⟩
  have := h2 x hx
  omega
set_option maxHeartbeats 1000000 in
set_option maxRecDepth 100000 in
theorem law_SeriesWithin (Ap Aq : Option Addr) (lp cp lq cq : Nat) (xp xq : List Raw) (terms : Int) (w : World) (hp : Poly w w.heap.size Ap xp) (hq : Poly w w.heap.size Aq xq) (hlp : lp = xp.length) (hlq : lq = xq.length) (hcp : lp ≤ cp) (hcq : lq ≤ cq) :
    Calls Try.prog 4 #[.slice Ap lp cp, .slice Aq lq cq, .int .i64 terms] w fun e w' => e = .returned (.bool true) ∧ Below w.heap.size w w' := by
  have HLP := Lib.hid hlp
  have HLQ := Lib.hid hlq
  have HCP := Lib.hid hcp
  have HCQ := Lib.hid hcq
  clear hlp hlq hcp hcq
  go_enter Try.func4, Try.ntmps4
  go_wp2_with fail
  refine (law_great Ap lp cp terms 10 xp w hp HLP.out).mono ?_
  rintro e w0 ⟨rfl, rfl⟩
  cases hgp : greatP xp terms 10 with
  | true =>
    go_wp2_with fail
    refine (law_awake _).mono ?_
    rintro e wz ⟨rfl, hbz⟩
    go_wp2_with fail
    go_ret
    exact ⟨rfl, hbz⟩
  | false =>
    go_wp2_with fail
    refine (law_great Aq lq cq terms 10 xq w hq HLQ.out).mono ?_
    rintro e w0 ⟨rfl, rfl⟩
    have HGP := Lib.hid (greatP_not hgp)
    clear hgp
    cases hgq : greatP xq terms 10 with
    | true =>
      go_wp2_with fail
      refine (law_awake _).mono ?_
      rintro e wz ⟨rfl, hbz⟩
      go_wp2_with fail
      go_ret
      exact ⟨rfl, hbz⟩
    | false =>
      have HGQ := Lib.hid (greatP_not hgq)
      clear hgq
      go_wp2_with fail
      obtain ⟨R1, hR1⟩ : ∃ R, withinR xp xq terms = R := ⟨_, rfl⟩
      obtain ⟨R2, hR2⟩ : ∃ R, turnedR xq terms = R := ⟨_, rfl⟩
      have HR1 := Lib.hid hR1
      have HR2 := Lib.hid hR2
      have HS := Lib.hid (withinR_size xp xq terms)
      have HS2 := Lib.hid (turnedR_size xq terms)
      rw [hR1] at HS
      rw [hR2] at HS2
      clear hR1 hR2
      have k1 := series_Within Ap Aq lp cp lq cq xp xq terms w hp hq HLP.out HLQ.out HCP.out HCQ.out
      rw [HR1.out] at k1
      refine k1.mono ?_
      rintro e w1 ⟨v1, rfl, ht1, hb1⟩
      obtain ⟨A1, c1, rfl, hc1, hp1⟩ := ht1.poly
      have hq1 := (hq.below hb1).more hb1.size
      have hpp1 := (hp.below hb1).more hb1.size
      obtain ⟨l1, hl1⟩ : ∃ l1, R1.1.length = l1 := ⟨_, rfl⟩
      have HL1 := Lib.hid hl1.symm
      rw [hl1] at HS ⊢
      clear hl1 hc1 ht1 k1
      go_wp2_with fail
      have k2 := r24_Within Ap Aq lp cp lq cq xp xq terms w1 hpp1 hq1 HLP.out HLQ.out HGP.out.1 HGP.out.2 HGQ.out.2
      rw [HR1.out] at k2
      refine k2.mono ?_
      rintro e w2 ⟨v2, rfl, ht2, hb2⟩
      obtain ⟨A2, c2, rfl, hc2, hp2⟩ := ht2.poly
      rw [← HL1.out]
      have hq2 := (hq1.below hb2).more hb2.size
      have hp1 := (hp1.below hb2).more hb2.size
      clear ht2 hc2 k2 hq1 hpp1
      go_wp2_with fail
      have k3 := series_Turned Aq lq cq xq terms w2 hq2 HLQ.out HCQ.out
      rw [HR2.out] at k3
      refine k3.mono ?_
      rintro e w3 ⟨v3, rfl, ht3, hb3⟩
      obtain ⟨A3, c3, rfl, hc3, hp3⟩ := ht3.poly
      obtain ⟨l2, hl2⟩ : ∃ l2, R2.1.length = l2 := ⟨_, rfl⟩
      have HL2 := Lib.hid hl2.symm
      rw [hl2] at HS2 ⊢
      have hq3 := (hq2.below hb3).more hb3.size
      have hp1 := (hp1.below hb3).more hb3.size
      have hp2 := (hp2.below hb3).more hb3.size
      clear ht3 hc3 k3 hq2 hl2
      go_wp2_with fail
      have k4 := r24_Turned Aq lq cq xq terms w3 hq3 HLQ.out HGQ.out.1 HGQ.out.2
      rw [HR2.out] at k4
      refine k4.mono ?_
      rintro e w4 ⟨v4, rfl, ht4, hb4⟩
      obtain ⟨A4, c4, rfl, hc4, hp4⟩ := ht4.poly
      rw [← HL2.out]
      have hp1 := (hp1.below hb4).more hb4.size
      have hp2 := (hp2.below hb4).more hb4.size
      have hp3 := (hp3.below hb4).more hb4.size
      clear ht4 hc4 k4 hq3
      have hbw : Below w.heap.size w w4 := ((hb1.trans (hb2.mono hb1.size)).trans (hb3.mono (Nat.le_trans hb1.size hb2.size))).trans (hb4.mono (Nat.le_trans (Nat.le_trans hb1.size hb2.size) hb3.size))
      obtain ⟨xs1, E1⟩ := R1
      obtain ⟨xs2, E2⟩ := R2
      go_wp2_with fail
      refine (law_is A1 A2 l1 l1 c1 c2 E1 E1 xs1 xs1 w4 hp1 hp2 HL1.out HL1.out (by have := HS.out.1; omega) (fun x hx => Nat.le_trans (HS.out.2 x hx) (by omega))).mono ?_
      rintro e w5 ⟨rfl, hb5⟩
      rw [is_same]
      have hp3 := (hp3.below hb5).more hb5.size
      have hp4 := (hp4.below hb5).more hb5.size
      go_wp2_with fail
      refine (law_is A3 A4 l2 l2 c3 c4 E2 E2 xs2 xs2 w5 hp3 hp4 HL2.out HL2.out (by have := HS2.out.1; omega) (fun x hx => Nat.le_trans (HS2.out.2 x hx) (by omega))).mono ?_
      rintro e w6 ⟨rfl, hb6⟩
      rw [is_same]
      go_wp2_with fail
      refine (law_awake _).mono ?_
      rintro e wz ⟨rfl, hbz⟩
      go_wp2_with fail
      go_ret
      exact ⟨rfl, ((hbw.trans (hb5.mono hbw.size)).trans (hb6.mono (Nat.le_trans hbw.size hb5.size))).trans (hbz.mono (Nat.le_trans (Nat.le_trans hbw.size hb5.size) hb6.size))⟩
end Go.Proofs.Ytmnfokapdipcdaa
