import Derived.Test.YtmnfokapdipcdaaBack
/- The law SeriesLaid. -/
namespace Go.Proofs.Ytmnfokapdipcdaa
open Go.RowKit Go.Deep
/-- What is used of the plain laws. -/
structure LaidF (P R Q PR RA RB RC : List Int) (n : Nat) : Prop where
  f1 : withinR (P.map rawOf) (Q.map rawOf) n = (RA.map rawOf, 0)
  f2 : withinR (R.map rawOf) (Q.map rawOf) n = (RB.map rawOf, 0)
  f3 : (toldL (mulZ (atL P) (atL R)) n).map rawOf = PR.map rawOf
  f4 : withinR (PR.map rawOf) (Q.map rawOf) n = (RC.map rawOf, 0)
  f5 : withinR ([0, 1].map rawOf) (Q.map rawOf) n = (cutR (Q.map rawOf) n, 0)
  f6 : withinR (P.map rawOf) ([0, 1].map rawOf) n = (cutR (P.map rawOf) n, 0)
  f7 : (toldL (mulZ (atL RA) (atL RB)) n).map rawOf = RC.map rawOf
  mA : Mild RA
  mB : Mild RB
  mP : Mild P
  mR : Mild R
  lA : RA.length ≤ 4096
  lB : RB.length ≤ 4096
  lP : P.length ≤ 4096
  lR : R.length ≤ 4096
  rC : rightPoly (RC.map rawOf) = true
  rP : rightPoly (P.map rawOf) = true
  rQ : rightPoly (Q.map rawOf) = true
theorem laidF_of {P R Q : List Int} {n : Nat} (h : LaidP P R Q n) : ∃ PR RA RB RC, LaidF P R Q PR RA RB RC n := by
  have hn := h.hn
  obtain ⟨a1, a2⟩ := laid_within (M := 50) (by omega) (by omega) h.hn h.hp h.hq h.h0 h.ps h.qs
  obtain ⟨b1, b2⟩ := laid_within (M := 50) (by omega) (by omega) h.hn h.hr h.hq h.h0 h.rs h.qs
  obtain ⟨c1, c2⟩ := laid_within (M := 30000) (by omega) (by omega) h.hn (laid_prod_right h) h.hq h.h0 (laid_prod h) h.qs
  have len : ∀ X : List Int, rightPoly (X.map rawOf) = true → X.length ≤ 4096 := fun X hX => by
    have := (right_len hX).1
    rwa [List.length_map] at this
  have rgt : ∀ z : Nat → Int, (∀ i, i < n → (z i).natAbs < W64 ^ 9) → rightPoly ((toldL z n).map rawOf) = true := fun z hz => toldL_right (by omega) fun i hi => mild_bits (hz i hi)
  exact ⟨_, _, _, _, a2, b2, rfl, c2, laid_x h, laid_p h, by rw [laid_mul h], laid_mild a1, laid_mild b1, mild_small h.ps, mild_small h.rs, len _ (rgt _ a1), len _ (rgt _ b1), len _ h.hp, len _ h.hr, rgt _ c1, h.hp, h.hq⟩
set_option maxHeartbeats 2000000 in
set_option maxRecDepth 100000 in
theorem law_SeriesLaid (A B C : Option Addr) (m1 m2 m3 d1 d2 d3 : Nat) (l m o : List Int) (terms : Int) (w : World) (h1 : Nums w w.heap.size A l) (h2 : Nums w w.heap.size B m) (h3 : Nums w w.heap.size C o) (e1 : m1 = l.length) (e2 : m2 = m.length) (e3 : m3 = o.length) (hm : (m1 : Int) ≤ 9223372036854775807) (hm2 : (m2 : Int) ≤ 9223372036854775807) (hm3 : (m3 : Int) ≤ 9223372036854775807) :
    Calls Try.prog 13 #[.slice A m1 d1, .slice B m2 d2, .slice C m3 d3, .int .i64 terms] w fun e w' => e = .returned (.bool true) ∧ Below w.heap.size w w' := by
  have HM := Lib.hid e1
  have HMM := Lib.hid hm
  have HN2 := Lib.hid e2
  have HNN := Lib.hid hm2
  have HN3 := Lib.hid e3
  have HNO := Lib.hid hm3
  clear e1 hm e2 hm2 e3 hm3
  obtain ⟨t, ht⟩ : ∃ t, terms % ((12 : Nat) : Int) = t := ⟨_, rfl⟩
  have htb : 0 ≤ t ∧ t < 12 := by omega
  obtain ⟨n, rfl⟩ : ∃ n : Nat, t = (n : Int) := ⟨t.toNat, by omega⟩
  have HN := Lib.hid ht
  have HN9 := Lib.hid (show n ≤ 11 by omega)
  clear ht htb
  go_enter Try.func13, Try.ntmps13
  go_wp2_with fail
  refine (law_awake _).mono ?_
  rintro e w1 ⟨rfl, hb1⟩
  have h1 := (h1.below hb1).more hb1.size
  have h2 := (h2.below hb1).more hb1.size
  have h3 := (h3.below hb1).more hb1.size
  go_wp2_with fail
  obtain ⟨P, hP⟩ : ∃ P, trimI (rawL l [] (min l.length 12)) = P := ⟨_, rfl⟩
  have kx2 := law_poly0 A m1 d1 l w1 h1 HM.out HMM.out
  rw [hP] at kx2
  refine kx2.mono ?_
  clear kx2
  rintro e w2 ⟨v2, rfl, ht2, hb2⟩
  obtain ⟨A2, c2, rfl, hc2, hp2⟩ := ht2.poly
  obtain ⟨l2, hl2⟩ : ∃ x, (P.map rawOf).length = x := ⟨_, rfl⟩
  have HL2 := Lib.hid hl2.symm
  simp only [hl2] at hc2 ⊢
  have HC2 := Lib.hid hc2
  clear hl2 hc2 ht2
  have h2 := (h2.below hb2).more hb2.size
  have h3 := (h3.below hb2).more hb2.size
  go_wp2_with fail
  obtain ⟨R, hR⟩ : ∃ R, trimI (rawL m [] (min m.length 12)) = R := ⟨_, rfl⟩
  have kx3 := law_poly0 B m2 d2 m w2 h2 HN2.out HNN.out
  rw [hR] at kx3
  refine kx3.mono ?_
  clear kx3
  rintro e w3 ⟨v3, rfl, ht3, hb3⟩
  obtain ⟨A3, c3, rfl, hc3, hp3⟩ := ht3.poly
  obtain ⟨l3, hl3⟩ : ∃ x, (R.map rawOf).length = x := ⟨_, rfl⟩
  have HL3 := Lib.hid hl3.symm
  simp only [hl3] at hc3 ⊢
  have HC3 := Lib.hid hc3
  clear hl3 hc3 ht3
  have h3 := (h3.below hb3).more hb3.size
  have hp2 := (hp2.below hb3).more hb3.size
  go_wp2_with fail
  obtain ⟨Q, hQ⟩ : ∃ Q, trimI (rawL o [0] (min o.length 12)) = Q := ⟨_, rfl⟩
  obtain ⟨PR, RA, RB, RC, hF⟩ : ∃ PR RA RB RC, LaidF P R Q PR RA RB RC n := by
    obtain ⟨g1, g2, g3⟩ := free_poly (l := l) (N := min l.length 12) (Nat.min_le_left _ _) (Nat.min_le_right _ _)
    obtain ⟨r1, r2, r3⟩ := free_poly (l := m) (N := min m.length 12) (Nat.min_le_left _ _) (Nat.min_le_right _ _)
    obtain ⟨q1, q2, q3⟩ := laid_poly (l := o) (N := min o.length 12) (Nat.min_le_left _ _) (Nat.min_le_right _ _)
    rw [hP] at g1 g2 g3
    rw [hR] at r1 r2 r3
    rw [hQ] at q1 q2 q3
    exact laidF_of ⟨g1, r1, q1, q2, g3, r3, q3, HN9.out⟩
  have HF := Lib.hid hF
  have hal := (Below.refl w3.heap.size w3).alloc (Nat.le_refl _) (.cells #[.int .i64 0] 3)
  have hfs : ∀ x ∈ [(0 : Int)], -1000 < x ∧ x < 1000 := by
    intro x hx
    simp at hx
    omega
  have kx4 := law_poly C ⟨w3.heap.size, 0, none⟩ m3 d3 1 1 o [0] _ ((h3.below hal).more hal.size) (fun j hj => by rw [add_plain, cell_of_row _ _ _ _ _ (0, 0) (heap_alloc_new w3 _)]; match j, hj with | 0, _ => rfl) HN3.out rfl (by simp) HNO.out hfs
  rw [hQ] at kx4
  refine kx4.mono ?_
  clear kx4
  rintro e w4 ⟨v4, rfl, ht4, hb4⟩
  obtain ⟨A4, c4, rfl, hc4, hp4⟩ := ht4.poly
  obtain ⟨l4, hl4⟩ : ∃ x, (Q.map rawOf).length = x := ⟨_, rfl⟩
  have HL4 := Lib.hid hl4.symm
  simp only [hl4] at hc4 ⊢
  have HC4 := Lib.hid hc4
  clear hl4 hc4 ht4
  have hb4 : Below w3.heap.size w3 w4 := hal.trans (hb4.mono hal.size)
  have hp2 := (hp2.below hb4).more hb4.size
  have hp3 := (hp3.below hb4).more hb4.size
  clear hal hfs hF hP hQ hR h1 h2 h3
  go_wp2_with fail
  refine (kit_pick terms 12 _ (by omega) (by omega)).mono ?_
  rintro e w0 ⟨rfl, rfl⟩
  rw [HN.out]
  go_wp2_with fail
  have kx5 := series_Within A2 A4 l2 c2 l4 c4 (P.map rawOf) (Q.map rawOf) n w4 hp2 hp4 HL2.out HL4.out HC2.out HC4.out
  rw [HF.out.f1] at kx5
  refine kx5.mono ?_
  clear kx5
  rintro e w5 ⟨v5, rfl, ht5, hb5⟩
  obtain ⟨A5, c5, rfl, hc5, hp5⟩ := ht5.poly
  obtain ⟨l5, hl5⟩ : ∃ x, (RA.map rawOf).length = x := ⟨_, rfl⟩
  have HL5 := Lib.hid hl5.symm
  simp only [hl5] at hc5 ⊢
  have HC5 := Lib.hid hc5
  clear hl5 hc5 ht5
  have hp2 := (hp2.below hb5).more hb5.size
  have hp3 := (hp3.below hb5).more hb5.size
  have hp4 := (hp4.below hb5).more hb5.size
  go_wp2_with fail
  have kx6 := series_Within A3 A4 l3 c3 l4 c4 (R.map rawOf) (Q.map rawOf) n w5 hp3 hp4 HL3.out HL4.out HC3.out HC4.out
  rw [HF.out.f2] at kx6
  refine kx6.mono ?_
  clear kx6
  rintro e w6 ⟨v6, rfl, ht6, hb6⟩
  obtain ⟨A6, c6, rfl, hc6, hp6⟩ := ht6.poly
  obtain ⟨l6, hl6⟩ : ∃ x, (RB.map rawOf).length = x := ⟨_, rfl⟩
  have HL6 := Lib.hid hl6.symm
  simp only [hl6] at hc6 ⊢
  have HC6 := Lib.hid hc6
  clear hl6 hc6 ht6
  have hp2 := (hp2.below hb6).more hb6.size
  have hp3 := (hp3.below hb6).more hb6.size
  have hp4 := (hp4.below hb6).more hb6.size
  have hp5 := (hp5.below hb6).more hb6.size
  have hbw : Below w.heap.size w w6 := below_trans (below_trans (below_trans (below_trans (below_trans hb1 hb2) hb3) hb4) hb5) hb6
  clear hb1 hb2 hb3 hb4 hb5 hb6
  go_wp2_with fail
  have kx7 := law_product A2 A3 l2 c2 l3 c3 n P R w6 hp2 hp3 (by rw [HL2.out, List.length_map]) (by rw [HL3.out, List.length_map]) (by have := HN9.out; omega) HF.out.mP HF.out.mR (by rw [HL2.out, List.length_map]; exact HF.out.lP) (by rw [HL3.out, List.length_map]; exact HF.out.lR)
  rw [HF.out.f3] at kx7
  refine kx7.mono ?_
  clear kx7
  rintro e w7 ⟨A7, c7, rfl, hc7, hp7, hb7⟩
  obtain ⟨l7, hl7⟩ : ∃ x, (PR.map rawOf).length = x := ⟨_, rfl⟩
  have HL7 := Lib.hid hl7.symm
  simp only [hl7] at hc7 ⊢
  have HC7 := Lib.hid hc7
  clear hl7 hc7
  have hbw := below_trans hbw hb7
  have hp2 := (hp2.below hb7).more hb7.size
  have hp4 := (hp4.below hb7).more hb7.size
  have hp5 := (hp5.below hb7).more hb7.size
  have hp6 := (hp6.below hb7).more hb7.size
  clear hb7
  go_wp2_with fail
  have kx8 := series_Within A7 A4 l7 c7 l4 c4 (PR.map rawOf) (Q.map rawOf) n w7 hp7 hp4 HL7.out HL4.out HC7.out HC4.out
  rw [HF.out.f4] at kx8
  refine kx8.mono ?_
  clear kx8
  rintro e w8 ⟨v8, rfl, ht8, hb8⟩
  obtain ⟨A8, c8, rfl, hc8, hp8⟩ := ht8.poly
  obtain ⟨l8, hl8⟩ : ∃ x, (RC.map rawOf).length = x := ⟨_, rfl⟩
  have HL8 := Lib.hid hl8.symm
  simp only [hl8] at hc8 ⊢
  have HC8 := Lib.hid hc8
  clear hl8 hc8 ht8
  have hbw := below_trans hbw hb8
  have hp2 := (hp2.below hb8).more hb8.size
  have hp4 := (hp4.below hb8).more hb8.size
  have hp5 := (hp5.below hb8).more hb8.size
  have hp6 := (hp6.below hb8).more hb8.size
  clear hb8 hp7
  go_wp2_with fail
  refine (law_of (some ⟨w8.heap.size, 0, none⟩) 2 2 [0, 1] _ (by simpa using Nums.lit w8 [0, 1] _ 3 rfl) rfl (by omega) (by decide)).mono ?_
  rintro e w9 ⟨v9, rfl, ht9, hb9⟩
  have hb9 : Below w8.heap.size w8 w9 := ((Below.refl _ w8).alloc (Nat.le_refl _) _).trans (hb9.mono (by simp))
  have hbw := below_trans hbw hb9
  obtain ⟨A9, c9, rfl, hc9, hp9⟩ := ht9.poly
  have hp2 := (hp2.below hb9).more hb9.size
  have hp4 := (hp4.below hb9).more hb9.size
  have hp5 := (hp5.below hb9).more hb9.size
  have hp6 := (hp6.below hb9).more hb9.size
  have hp8 := (hp8.below hb9).more hb9.size
  clear hb9 ht9
  go_wp2_with fail
  have kx10 := series_Within A9 A4 2 c9 l4 c4 ([0, 1].map rawOf) (Q.map rawOf) n w9 hp9 hp4 rfl HL4.out hc9 HC4.out
  rw [HF.out.f5] at kx10
  refine kx10.mono ?_
  clear kx10
  rintro e w10 ⟨v10, rfl, ht10, hb10⟩
  obtain ⟨A10, c10, rfl, hc10, hp10⟩ := ht10.poly
  obtain ⟨l10, hl10⟩ : ∃ x, (cutR (Q.map rawOf) n).length = x := ⟨_, rfl⟩
  have HL10 := Lib.hid hl10.symm
  simp only [hl10] at hc10 ⊢
  have HC10 := Lib.hid hc10
  clear hl10 hc10 ht10
  have hbw := below_trans hbw hb10
  have hp2 := (hp2.below hb10).more hb10.size
  have hp4 := (hp4.below hb10).more hb10.size
  have hp5 := (hp5.below hb10).more hb10.size
  have hp6 := (hp6.below hb10).more hb10.size
  have hp8 := (hp8.below hb10).more hb10.size
  clear hb10 hp9 hc9
  go_wp2_with fail
  refine (law_of (some ⟨w10.heap.size, 0, none⟩) 2 2 [0, 1] _ (by simpa using Nums.lit w10 [0, 1] _ 3 rfl) rfl (by omega) (by decide)).mono ?_
  rintro e w11 ⟨v11, rfl, ht11, hb11⟩
  have hb11 : Below w10.heap.size w10 w11 := ((Below.refl _ w10).alloc (Nat.le_refl _) _).trans (hb11.mono (by simp))
  have hbw := below_trans hbw hb11
  obtain ⟨A11, c11, rfl, hc11, hp11⟩ := ht11.poly
  have hp2 := (hp2.below hb11).more hb11.size
  have hp4 := (hp4.below hb11).more hb11.size
  have hp5 := (hp5.below hb11).more hb11.size
  have hp6 := (hp6.below hb11).more hb11.size
  have hp8 := (hp8.below hb11).more hb11.size
  have hp10 := (hp10.below hb11).more hb11.size
  clear hb11 ht11
  go_wp2_with fail
  have kx12 := series_Within A2 A11 l2 c2 2 c11 (P.map rawOf) ([0, 1].map rawOf) n w11 hp2 hp11 HL2.out rfl HC2.out hc11
  rw [HF.out.f6] at kx12
  refine kx12.mono ?_
  clear kx12
  rintro e w12 ⟨v12, rfl, ht12, hb12⟩
  obtain ⟨A12, c12, rfl, hc12, hp12⟩ := ht12.poly
  obtain ⟨l12, hl12⟩ : ∃ x, (cutR (P.map rawOf) n).length = x := ⟨_, rfl⟩
  have HL12 := Lib.hid hl12.symm
  simp only [hl12] at hc12 ⊢
  have HC12 := Lib.hid hc12
  clear hl12 hc12 ht12
  have hbw := below_trans hbw hb12
  have hp2 := (hp2.below hb12).more hb12.size
  have hp4 := (hp4.below hb12).more hb12.size
  have hp5 := (hp5.below hb12).more hb12.size
  have hp6 := (hp6.below hb12).more hb12.size
  have hp8 := (hp8.below hb12).more hb12.size
  have hp10 := (hp10.below hb12).more hb12.size
  clear hb12 hp11 hc11
  go_wp2_with fail
  have kx13 := law_product A5 A6 l5 c5 l6 c6 n RA RB w12 hp5 hp6 (by rw [HL5.out, List.length_map]) (by rw [HL6.out, List.length_map]) (by have := HN9.out; omega) HF.out.mA HF.out.mB (by rw [HL5.out, List.length_map]; exact HF.out.lA) (by rw [HL6.out, List.length_map]; exact HF.out.lB)
  rw [HF.out.f7] at kx13
  refine kx13.mono ?_
  clear kx13
  rintro e w13 ⟨A13, c13, rfl, hc13, hp13, hb13⟩
  obtain ⟨l13, hl13⟩ : ∃ x, (RC.map rawOf).length = x := ⟨_, rfl⟩
  have HL13 := Lib.hid hl13.symm
  simp only [hl13] at hc13 ⊢
  have HC13 := Lib.hid hc13
  clear hl13 hc13
  have hbw := below_trans hbw hb13
  have hp2 := (hp2.below hb13).more hb13.size
  have hp4 := (hp4.below hb13).more hb13.size
  have hp8 := (hp8.below hb13).more hb13.size
  have hp10 := (hp10.below hb13).more hb13.size
  have hp12 := (hp12.below hb13).more hb13.size
  clear hb13
  have HE13 := Lib.hid (show l13 = l8 by rw [HL13.out, HL8.out])
  rw [HE13.out]
  go_wp2_with fail
  refine (kit_wholes A13 A8 l8 l8 c13 c8 (RC.map rawOf) (RC.map rawOf) w13 hp13 hp8 HL8.out HL8.out (by have := HL8.out; have h := (right_len HF.out.rC).1; omega) (right_lens HF.out.rC)).mono ?_
  rintro e w14 ⟨rfl, hb14⟩
  rw [decide_eq_true rfl]
  have hbw := below_trans hbw hb14
  have hp2 := (hp2.below hb14).more hb14.size
  have hp4 := (hp4.below hb14).more hb14.size
  have hp10 := (hp10.below hb14).more hb14.size
  have hp12 := (hp12.below hb14).more hb14.size
  clear hb14
  go_wp2_with fail
  refine (law_cut A4 l4 c4 n _ w14 hp4 HL4.out HC4.out (by have := HN9.out; omega)).mono ?_
  rintro e w0 ⟨rfl, rfl⟩
  have hq := hp4.cut n
  simp only [← HL10.out]
  go_wp2_with fail
  refine (law_is A10 A4 l10 l10 c10 c4 0 0 (cutR (Q.map rawOf) n) (cutR (Q.map rawOf) n) w14 hp10 hq HL10.out HL10.out (by have := HL10.out; have h := cut_len (n := n) HF.out.rQ; omega) (cut_lens HF.out.rQ)).mono ?_
  rintro e w15 ⟨rfl, hb15⟩
  rw [is_same]
  have hbw := below_trans hbw hb15
  have hp2 := (hp2.below hb15).more hb15.size
  have hp12 := (hp12.below hb15).more hb15.size
  clear hb15 hq
  go_wp2_with fail
  refine (law_cut A2 l2 c2 n _ w15 hp2 HL2.out HC2.out (by have := HN9.out; omega)).mono ?_
  rintro e w0 ⟨rfl, rfl⟩
  have hq := hp2.cut n
  simp only [← HL12.out]
  go_wp2_with fail
  refine (law_is A12 A2 l12 l12 c12 c2 0 0 (cutR (P.map rawOf) n) (cutR (P.map rawOf) n) w15 hp12 hq HL12.out HL12.out (by have := HL12.out; have h := cut_len (n := n) HF.out.rP; omega) (cut_lens HF.out.rP)).mono ?_
  rintro e w16 ⟨rfl, hb16⟩
  rw [is_same]
  have hbw := below_trans hbw hb16
  go_wp2_with fail
  go_ret
  exact ⟨rfl, hbw⟩
end Go.Proofs.Ytmnfokapdipcdaa
