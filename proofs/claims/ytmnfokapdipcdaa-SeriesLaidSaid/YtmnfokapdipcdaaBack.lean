import Derived.Test.YtmnfokapdipcdaaLaw24e
/- The law SeriesBack. -/
namespace Go.Proofs.Ytmnfokapdipcdaa
open Go.RowKit Go.Deep
/-- What is used of the plain laws. -/
structure BackF (P Q RA RB RC : List Int) (n k : Nat) : Prop where
  f1 : overR one1 (Q.map rawOf) n = (RA.map rawOf, 0)
  f2 : overR one1 (Q.map rawOf) k = (RB.map rawOf, 0)
  f3 : overR (P.map rawOf) (Q.map rawOf) n = (RC.map rawOf, 0)
  f4 : cutR (RA.map rawOf) k = RB.map rawOf
  f5 : (toldL (mulZ (atL RA) (atL Q)) n).map rawOf = cutR ([1].map rawOf) n
  f6 : (toldL (mulZ (atL RC) (atL Q)) n).map rawOf = cutR (P.map rawOf) n
  f7 : (toldL (mulZ (atL P) (atL RA)) n).map rawOf = RC.map rawOf
  f8 : 0 < n → overR one1 (RA.map rawOf) n = (cutR (Q.map rawOf) n, 0)
  mA : Mild RA
  mC : Mild RC
  mP : Mild P
  mQ : Mild Q
  lA : RA.length ≤ 4096
  lC : RC.length ≤ 4096
  lP : P.length ≤ 4096
  lQ : Q.length ≤ 4096
  rB : rightPoly (RB.map rawOf) = true
  rC : rightPoly (RC.map rawOf) = true
  rP : rightPoly (P.map rawOf) = true
  rQ : rightPoly (Q.map rawOf) = true
theorem backF_of {P Q : List Int} {n k : Nat} (h : BackP P Q n) (hk : k ≤ n) : ∃ RA RB RC, BackF P Q RA RB RC n k := by
  have hn := h.hn
  have hrA := inv_right h
  have hrB : rightPoly ((toldL (invZ Q) k).map rawOf) = true := toldL_right (by omega) fun i hi => inv_bits h i (by omega)
  have hrC : rightPoly ((toldL (quoZ P Q) n).map rawOf) = true := toldL_right (by omega) fun i hi => quo_bits h i (by omega)
  have len : ∀ X : List Int, rightPoly (X.map rawOf) = true → X.length ≤ 4096 := fun X hX => by
    have := (right_len hX).1
    rwa [List.length_map] at this
  exact ⟨toldL (invZ Q) n, toldL (invZ Q) k, toldL (quoZ P Q) n, back_inv h n hn, back_inv h k (by omega), back_quo h, back_cut hk, back_one h, back_p h, by rw [back_c h], back_back h,
    back_mildA h, back_mildC h, mild_small h.ps, mild_small h.qs, len _ hrA, len _ hrC, len _ h.hp, len _ h.hq, hrB, hrC, h.hp, h.hq⟩
theorem cut_lens {X : List Int} {n : Nat} (h : rightPoly (X.map rawOf) = true) : ∀ x ∈ cutR (X.map rawOf) n, x.2.length ≤ 1099511627776 :=
  fun x hx => Nat.le_trans ((right_len h).2 x (List.mem_of_mem_take hx)) (by omega)
theorem cut_len {X : List Int} {n : Nat} (h : rightPoly (X.map rawOf) = true) : (cutR (X.map rawOf) n).length ≤ 4096 := by
  have h1 := (right_len h).1
  rw [cutR_len]
  have := topR_le (X.map rawOf) (min (X.map rawOf).length n)
  omega
theorem right_lens {X : List Int} (h : rightPoly (X.map rawOf) = true) : ∀ x ∈ X.map rawOf, x.2.length ≤ 1099511627776 := fun x hx => Nat.le_trans ((right_len h).2 x hx) (by omega)
theorem Poly.cut {w : World} {B : Nat} {A : Option Addr} {xs : List Raw} (h : Poly w B A xs) (n : Nat) : Poly w B A (cutR xs n) := h.take _
set_option maxHeartbeats 2000000 in
set_option maxRecDepth 100000 in
theorem law_SeriesBack (A B : Option Addr) (m1 m2 d1 d2 : Nat) (l m : List Int) (b : Bool) (terms fewer : Int) (w : World) (h1 : Nums w w.heap.size A l) (h2 : Nums w w.heap.size B m) (e1 : m1 = l.length) (e2 : m2 = m.length) (hm : (m1 : Int) ≤ 9223372036854775807) (hm2 : (m2 : Int) ≤ 9223372036854775807) :
    Calls Try.prog 12 #[.slice A m1 d1, .slice B m2 d2, .bool b, .int .i64 terms, .int .i64 fewer] w fun e w' => e = .returned (.bool true) ∧ Below w.heap.size w w' := by
  have HM := Lib.hid e1
  have HMM := Lib.hid hm
  have HN2 := Lib.hid e2
  have HNN := Lib.hid hm2
  clear e1 hm e2 hm2
  obtain ⟨s, hs⟩ : ∃ s : Int, (if b then -1 else 1) = s := ⟨_, rfl⟩
  have HSS := Lib.hid (show s.natAbs = 1 by rw [← hs]; cases b <;> rfl)
  have HS := Lib.hid hs
  clear hs
  obtain ⟨t, ht⟩ : ∃ t, terms % ((20 : Nat) : Int) = t := ⟨_, rfl⟩
  have htb : 0 ≤ t ∧ t < 20 := by omega
  obtain ⟨n, rfl⟩ : ∃ n : Nat, t = (n : Int) := ⟨t.toNat, by omega⟩
  have HN := Lib.hid ht
  have HN9 := Lib.hid (show n ≤ 19 by omega)
  clear ht htb
  obtain ⟨t, ht⟩ : ∃ t, fewer % ((n + 1 : Nat) : Int) = t := ⟨_, rfl⟩
  have htb : 0 ≤ t ∧ t < ((n + 1 : Nat) : Int) := ⟨by rw [← ht]; exact Int.emod_nonneg _ (by omega), by rw [← ht]; exact Int.emod_lt_of_pos _ (by omega)⟩
  obtain ⟨k, rfl⟩ : ∃ k : Nat, t = (k : Int) := ⟨t.toNat, by omega⟩
  have HK := Lib.hid ht
  have HKN := Lib.hid (show k ≤ n by omega)
  have hnI : (n : Int) + 1 ≤ 1000 := by have := HN9.out; omega
  clear ht htb
  go_enter Try.func12, Try.ntmps12
  go_wp2_with fail
  refine (law_awake _).mono ?_
  rintro e w1 ⟨rfl, hb1⟩
  have h1 := (h1.below hb1).more hb1.size
  have h2 := (h2.below hb1).more hb1.size
  go_wp2_with fail
  obtain ⟨P, hP⟩ : ∃ P, trimI (rawL l [] (min l.length 12)) = P := ⟨_, rfl⟩
  have kx2 := law_poly0 A m1 d1 l w1 h1 HM.out HMM.out
  rw [hP] at kx2
  refine kx2.mono ?_
  clear kx2
  rintro e w2 ⟨v2, rfl, ht2, hb2⟩
  obtain ⟨A2, c2, rfl, hc2, hp2⟩ := ht2.poly
  obtain ⟨l2, hl2⟩ : ∃ x, (P.map rawOf).length = x := ⟨_, rfl⟩
  have HL2 := Lib.hid hl2.symm
  simp only [hl2] at hc2 ⊢
  have HC2 := Lib.hid hc2
  clear hl2 hc2 ht2
  have h2 := (h2.below hb2).more hb2.size
  go_wp2_with fail
  refine (law_sign b _).mono ?_
  rintro e w0 ⟨rfl, rfl⟩
  rw [HS.out]
  go_wp2_with fail
  obtain ⟨Q, hQ⟩ : ∃ Q, trimI (rawL m [s] (min m.length 12)) = Q := ⟨_, rfl⟩
  obtain ⟨RA, RB, RC, hF⟩ : ∃ RA RB RC, BackF P Q RA RB RC n k := by
    obtain ⟨g1, g2, g3⟩ := free_poly (l := l) (N := min l.length 12) (Nat.min_le_left _ _) (Nat.min_le_right _ _)
    obtain ⟨q1, q2, q3⟩ := back_poly (l := m) (s := s) (N := min m.length 12) (Nat.min_le_left _ _) (Nat.min_le_right _ _) HSS.out
    rw [hP] at g1 g2 g3
    rw [hQ] at q1 q2 q3
    exact backF_of ⟨g1, q1, q2, g3, q3, HN9.out⟩ HKN.out
  have HF := Lib.hid hF
  have hal := (Below.refl w2.heap.size w2).alloc (Nat.le_refl _) (.cells #[.int .i64 s] 3)
  have hfs : ∀ x ∈ [s], -1000 < x ∧ x < 1000 := by
    have := HSS.out
    intro x hx
    simp at hx
    omega
  have kx3 := law_poly B ⟨w2.heap.size, 0, none⟩ m2 d2 1 1 m [s] _ ((h2.below hal).more hal.size) (fun j hj => by rw [add_plain, cell_of_row _ _ _ _ _ (0, 0) (heap_alloc_new w2 _)]; match j, hj with | 0, _ => rfl) HN2.out rfl (by simp) HNN.out hfs
  rw [hQ] at kx3
  refine kx3.mono ?_
  clear kx3
  rintro e w3 ⟨v3, rfl, ht3, hb3⟩
  obtain ⟨A3, c3, rfl, hc3, hp3⟩ := ht3.poly
  obtain ⟨l3, hl3⟩ : ∃ x, (Q.map rawOf).length = x := ⟨_, rfl⟩
  have HL3 := Lib.hid hl3.symm
  simp only [hl3] at hc3 ⊢
  have HC3 := Lib.hid hc3
  clear hl3 hc3 ht3
  have hb3 : Below w2.heap.size w2 w3 := hal.trans (hb3.mono hal.size)
  have hp2 := (hp2.below hb3).more hb3.size
  clear hal hfs hF hP hQ h1 h2
  go_wp2_with fail
  refine (kit_pick terms 20 _ (by omega) (by omega)).mono ?_
  rintro e w0 ⟨rfl, rfl⟩
  rw [HN.out]
  go_wp2_with fail
  have kp := kit_pick fewer (n + 1) w3 (by omega) (by omega)
  rw [HK.out] at kp
  rw [Int.natCast_add, Int.natCast_one] at kp
  refine kp.mono ?_
  rintro e w0 ⟨rfl, rfl⟩
  clear kp
  go_wp2_with fail
  have kx4 := series_Inverse A3 l3 c3 (Q.map rawOf) n w3 hp3 HL3.out HC3.out
  rw [HF.out.f1] at kx4
  refine kx4.mono ?_
  clear kx4
  rintro e w4 ⟨v4, rfl, ht4, hb4⟩
  obtain ⟨A4, c4, rfl, hc4, hp4⟩ := ht4.poly
  obtain ⟨l4, hl4⟩ : ∃ x, (RA.map rawOf).length = x := ⟨_, rfl⟩
  have HL4 := Lib.hid hl4.symm
  simp only [hl4] at hc4 ⊢
  have HC4 := Lib.hid hc4
  clear hl4 hc4 ht4
  have hp2 := (hp2.below hb4).more hb4.size
  have hp3 := (hp3.below hb4).more hb4.size
  go_wp2_with fail
  have kx5 := series_Inverse A3 l3 c3 (Q.map rawOf) k w4 hp3 HL3.out HC3.out
  rw [HF.out.f2] at kx5
  refine kx5.mono ?_
  clear kx5
  rintro e w5 ⟨v5, rfl, ht5, hb5⟩
  obtain ⟨A5, c5, rfl, hc5, hp5⟩ := ht5.poly
  obtain ⟨l5, hl5⟩ : ∃ x, (RB.map rawOf).length = x := ⟨_, rfl⟩
  have HL5 := Lib.hid hl5.symm
  simp only [hl5] at hc5 ⊢
  have HC5 := Lib.hid hc5
  clear hl5 hc5 ht5
  have hp2 := (hp2.below hb5).more hb5.size
  have hp3 := (hp3.below hb5).more hb5.size
  have hp4 := (hp4.below hb5).more hb5.size
  go_wp2_with fail
  have kx6 := series_Over A2 A3 l2 c2 l3 c3 (P.map rawOf) (Q.map rawOf) n w5 hp2 hp3 HL2.out HL3.out HC2.out HC3.out
  rw [HF.out.f3] at kx6
  refine kx6.mono ?_
  clear kx6
  rintro e w6 ⟨v6, rfl, ht6, hb6⟩
  obtain ⟨A6, c6, rfl, hc6, hp6⟩ := ht6.poly
  obtain ⟨l6, hl6⟩ : ∃ x, (RC.map rawOf).length = x := ⟨_, rfl⟩
  have HL6 := Lib.hid hl6.symm
  simp only [hl6] at hc6 ⊢
  have HC6 := Lib.hid hc6
  clear hl6 hc6 ht6
  have hp2 := (hp2.below hb6).more hb6.size
  have hp3 := (hp3.below hb6).more hb6.size
  have hp4 := (hp4.below hb6).more hb6.size
  have hp5 := (hp5.below hb6).more hb6.size
  have hbw : Below w.heap.size w w6 := below_trans (below_trans (below_trans (below_trans (below_trans hb1 hb2) hb3) hb4) hb5) hb6
  clear hb1 hb2 hb3 hb4 hb5 hb6
  go_wp2_with fail
  refine (law_cut A4 l4 c4 k _ w6 hp4 HL4.out HC4.out (by have := HKN.out; have := HN9.out; omega)).mono ?_
  rintro e w0 ⟨rfl, rfl⟩
  have hq := hp4.cut k
  rw [HF.out.f4] at hq ⊢
  simp only [← HL5.out]
  go_wp2_with fail
  refine (kit_wholes A5 A4 l5 l5 c5 c4 (RB.map rawOf) (RB.map rawOf) w6 hp5 hq HL5.out HL5.out (by have := HL5.out; have h := (right_len HF.out.rB).1; omega) (right_lens HF.out.rB)).mono ?_
  rintro e w7 ⟨rfl, hb7⟩
  rw [decide_eq_true rfl]
  have hbw := below_trans hbw hb7
  clear hq hp5
  have hp2 := (hp2.below hb7).more hb7.size
  have hp3 := (hp3.below hb7).more hb7.size
  have hp4 := (hp4.below hb7).more hb7.size
  have hp6 := (hp6.below hb7).more hb7.size
  clear hb7
  go_wp2_with fail
  have kx8 := law_product A4 A3 l4 c4 l3 c3 n RA Q w7 hp4 hp3 (by rw [HL4.out, List.length_map]) (by rw [HL3.out, List.length_map]) (by have := HN9.out; omega) HF.out.mA HF.out.mQ (by rw [HL4.out, List.length_map]; exact HF.out.lA) (by rw [HL3.out, List.length_map]; exact HF.out.lQ)
  rw [HF.out.f5] at kx8
  refine kx8.mono ?_
  clear kx8
  rintro e w8 ⟨A8, c8, rfl, hc8, hp8, hb8⟩
  obtain ⟨l8, hl8⟩ : ∃ x, (cutR ([1].map rawOf) n).length = x := ⟨_, rfl⟩
  have HL8 := Lib.hid hl8.symm
  simp only [hl8] at hc8 ⊢
  have HC8 := Lib.hid hc8
  clear hl8 hc8
  have hbw := below_trans hbw hb8
  have hp2 := (hp2.below hb8).more hb8.size
  have hp3 := (hp3.below hb8).more hb8.size
  have hp4 := (hp4.below hb8).more hb8.size
  have hp6 := (hp6.below hb8).more hb8.size
  clear hb8
  go_wp2_with fail
  refine (law_of (some ⟨w8.heap.size, 0, none⟩) 1 1 [1] _ (by simpa using Nums.lit w8 [1] _ 3 rfl) rfl (by omega) (by decide)).mono ?_
  rintro e w9 ⟨v9, rfl, ht9, hb9⟩
  have hb9 : Below w8.heap.size w8 w9 := ((Below.refl _ w8).alloc (Nat.le_refl _) _).trans (hb9.mono (by simp))
  have hbw := below_trans hbw hb9
  obtain ⟨A9, c9, rfl, hc9, hp9⟩ := ht9.poly
  have hp2 := (hp2.below hb9).more hb9.size
  have hp3 := (hp3.below hb9).more hb9.size
  have hp4 := (hp4.below hb9).more hb9.size
  have hp6 := (hp6.below hb9).more hb9.size
  have hp8 := (hp8.below hb9).more hb9.size
  clear hb9 ht9
  go_wp2_with fail
  refine (law_cut A9 1 c9 n _ w9 hp9 rfl hc9 (by have := HN9.out; omega)).mono ?_
  rintro e w0 ⟨rfl, rfl⟩
  have hq := hp9.cut n
  simp only [← HL8.out]
  clear hc9 hp9
  go_wp2_with fail
  refine (kit_wholes A8 A9 l8 l8 c8 c9 (cutR ([1].map rawOf) n) (cutR ([1].map rawOf) n) w9 hp8 hq HL8.out HL8.out (by have := HL8.out; have h := cut_len (n := n) one_right; omega) (cut_lens one_right)).mono ?_
  rintro e w10 ⟨rfl, hb10⟩
  rw [decide_eq_true rfl]
  have hbw := below_trans hbw hb10
  clear hq hp8
  have hp2 := (hp2.below hb10).more hb10.size
  have hp3 := (hp3.below hb10).more hb10.size
  have hp4 := (hp4.below hb10).more hb10.size
  have hp6 := (hp6.below hb10).more hb10.size
  clear hb10
  go_wp2_with fail
  have kx11 := law_product A6 A3 l6 c6 l3 c3 n RC Q w10 hp6 hp3 (by rw [HL6.out, List.length_map]) (by rw [HL3.out, List.length_map]) (by have := HN9.out; omega) HF.out.mC HF.out.mQ (by rw [HL6.out, List.length_map]; exact HF.out.lC) (by rw [HL3.out, List.length_map]; exact HF.out.lQ)
  rw [HF.out.f6] at kx11
  refine kx11.mono ?_
  clear kx11
  rintro e w11 ⟨A11, c11, rfl, hc11, hp11, hb11⟩
  obtain ⟨l11, hl11⟩ : ∃ x, (cutR (P.map rawOf) n).length = x := ⟨_, rfl⟩
  have HL11 := Lib.hid hl11.symm
  simp only [hl11] at hc11 ⊢
  have HC11 := Lib.hid hc11
  clear hl11 hc11
  have hbw := below_trans hbw hb11
  have hp2 := (hp2.below hb11).more hb11.size
  have hp3 := (hp3.below hb11).more hb11.size
  have hp4 := (hp4.below hb11).more hb11.size
  have hp6 := (hp6.below hb11).more hb11.size
  clear hb11
  go_wp2_with fail
  refine (law_cut A2 l2 c2 n _ w11 hp2 HL2.out HC2.out (by have := HN9.out; omega)).mono ?_
  rintro e w0 ⟨rfl, rfl⟩
  have hq := hp2.cut n
  simp only [← HL11.out]
  go_wp2_with fail
  refine (kit_wholes A11 A2 l11 l11 c11 c2 (cutR (P.map rawOf) n) (cutR (P.map rawOf) n) w11 hp11 hq HL11.out HL11.out (by have := HL11.out; have h := cut_len (n := n) HF.out.rP; omega) (cut_lens HF.out.rP)).mono ?_
  rintro e w12 ⟨rfl, hb12⟩
  rw [decide_eq_true rfl]
  have hbw := below_trans hbw hb12
  clear hq hp11
  have hp2 := (hp2.below hb12).more hb12.size
  have hp3 := (hp3.below hb12).more hb12.size
  have hp4 := (hp4.below hb12).more hb12.size
  have hp6 := (hp6.below hb12).more hb12.size
  clear hb12
  go_wp2_with fail
  have kx13 := law_product A2 A4 l2 c2 l4 c4 n P RA w12 hp2 hp4 (by rw [HL2.out, List.length_map]) (by rw [HL4.out, List.length_map]) (by have := HN9.out; omega) HF.out.mP HF.out.mA (by rw [HL2.out, List.length_map]; exact HF.out.lP) (by rw [HL4.out, List.length_map]; exact HF.out.lA)
  rw [HF.out.f7] at kx13
  refine kx13.mono ?_
  clear kx13
  rintro e w13 ⟨A13, c13, rfl, hc13, hp13, hb13⟩
  obtain ⟨l13, hl13⟩ : ∃ x, (RC.map rawOf).length = x := ⟨_, rfl⟩
  have HL13 := Lib.hid hl13.symm
  simp only [hl13] at hc13 ⊢
  have HC13 := Lib.hid hc13
  clear hl13 hc13
  have hbw := below_trans hbw hb13
  have hp3 := (hp3.below hb13).more hb13.size
  have hp4 := (hp4.below hb13).more hb13.size
  have hp6 := (hp6.below hb13).more hb13.size
  clear hb13
  have HE13 := Lib.hid (show l13 = l6 by rw [HL13.out, HL6.out])
  rw [HE13.out]
  go_wp2_with fail
  refine (kit_wholes A13 A6 l6 l6 c13 c6 (RC.map rawOf) (RC.map rawOf) w13 hp13 hp6 HL6.out HL6.out (by have := HL6.out; have h := (right_len HF.out.rC).1; omega) (right_lens HF.out.rC)).mono ?_
  rintro e w14 ⟨rfl, hb14⟩
  rw [decide_eq_true rfl]
  have hbw := below_trans hbw hb14
  have hp3 := (hp3.below hb14).more hb14.size
  have hp4 := (hp4.below hb14).more hb14.size
  clear hb14 hp13 hp6
  by_cases hn0 : n = 0
  · subst hn0
    go_wp2_with fail
    go_ret
    exact ⟨rfl, hbw⟩
  · have tn : ((n : Int) == 0) = false := beq_eq_false_iff_ne.2 (by omega)
    have HN0 := Lib.hid (show 0 < n by omega)
    clear hn0
    go_wp2_with fail
    have kx15 := series_Inverse A4 l4 c4 (RA.map rawOf) n w14 hp4 HL4.out HC4.out
    rw [HF.out.f8 HN0.out] at kx15
    refine kx15.mono ?_
    clear kx15
    rintro e w15 ⟨v15, rfl, ht15, hb15⟩
    obtain ⟨A15, c15, rfl, hc15, hp15⟩ := ht15.poly
    obtain ⟨l15, hl15⟩ : ∃ x, (cutR (Q.map rawOf) n).length = x := ⟨_, rfl⟩
    have HL15 := Lib.hid hl15.symm
    simp only [hl15] at hc15 ⊢
    have HC15 := Lib.hid hc15
    clear hl15 hc15 ht15
    have hp3 := (hp3.below hb15).more hb15.size
    have hbw := below_trans hbw hb15
    clear hb15
    go_wp2_with fail
    refine (law_cut A3 l3 c3 n _ w15 hp3 HL3.out HC3.out (by have := HN9.out; omega)).mono ?_
    rintro e w0 ⟨rfl, rfl⟩
    have hq := hp3.cut n
    simp only [← HL15.out]
    go_wp2_with fail
    refine (kit_wholes A15 A3 l15 l15 c15 c3 (cutR (Q.map rawOf) n) (cutR (Q.map rawOf) n) w15 hp15 hq HL15.out HL15.out (by have := HL15.out; have h := cut_len (n := n) HF.out.rQ; omega) (cut_lens HF.out.rQ)).mono ?_
    rintro e w16 ⟨rfl, hb16⟩
    rw [decide_eq_true rfl]
    have hbw := below_trans hbw hb16
    go_wp2_with fail
    go_ret
    exact ⟨rfl, hbw⟩
end Go.Proofs.Ytmnfokapdipcdaa
