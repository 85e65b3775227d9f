import Derived.Test.YtmnfokapdipcdaaLaw24c
/- The law SeriesTurned. -/
namespace Go.Proofs.Ytmnfokapdipcdaa
open Go.RowKit Go.Deep
/-! ### plain -/
theorem pow_turn {i k : Nat} (hi : i ≤ 9) (hk : k = 900) : (4096 * (4 * 50) ^ 10) ^ i < 2 ^ k := by
  have h1 : (4096 * (4 * 50) ^ 10) ≤ 2 ^ 90 := by decide
  have h2 : (4096 * (4 * 50) ^ 10) ^ i ≤ (2 ^ 90) ^ i := Nat.pow_le_pow_left h1 i
  rw [← Nat.pow_mul] at h2
  exact Nat.lt_of_le_of_lt h2 (Nat.pow_lt_pow_right (by omega) (by omega))
theorem natAbs_tdiv_le (x y : Int) : (x.tdiv y).natAbs ≤ x.natAbs := by
  rw [Int.natAbs_tdiv]; exact Nat.div_le_self _ _
theorem rev_small {p : Nat → Int} (hp : p 0 = 0) (h1 : (p 1).natAbs = 1) (hs : ∀ k, (p k).natAbs ≤ 50) {i : Nat} (hi : i ≤ 9) : nbits (revZ p i).natAbs ≤ 262144 := by
  have e := lag_is hp h1 atL_one i
  have hf : ∀ k, k < 10 → (overZ (atL [1]) (tailZ p) k).natAbs ≤ (4 * 50) ^ 10 := fun k hk =>
    Nat.le_trans (overZ_small (n := 10) (M := 50) (by omega) (fun k _ => by
      have := atL_small (l := [1]) (M := 50) (by simp) k
      exact this) (fun k _ => hs (k + 1)) k hk) (Nat.pow_le_pow_right (by omega) (by omega))
  have ha : ∀ k, k < 10 → (atL [1] k).natAbs ≤ 1 := fun k _ => atL_small (by simp) k
  have hw := powZ_small (n := 10) (by omega) ha hf i (i - 1) (by omega)
  have h3 : (revZ p i).natAbs ≤ (4096 * (4 * 50) ^ 10) ^ i := by
    rw [← e]
    unfold lagZ
    split
    · exact Nat.zero_le _
    · exact Nat.le_trans (natAbs_tdiv_le _ _) hw
  obtain ⟨k, hk⟩ : ∃ k, k = 900 := ⟨_, rfl⟩
  exact Nat.le_trans (nbits_le.2 (Nat.lt_of_le_of_lt h3 (pow_turn hi hk))) (by omega)
theorem small_nbits {x : Int} (h : x.natAbs ≤ 50) : nbits x.natAbs ≤ 262144 := nbits_small (by omega) (by omega)
structure TurnP (P : List Int) (n : Nat) : Prop where
  hr : rightPoly (P.map rawOf) = true
  h0 : atL P 0 = 0
  h1 : (atL P 1).natAbs = 1
  hs : ∀ k, (atL P k).natAbs ≤ 50
  hn : n ≤ 9
section
variable {P : List Int} {n : Nat}
theorem turn_is (h : TurnP P n) : turnedR (P.map rawOf) n = ((toldL (revZ (atL P)) n).map rawOf, 0) := by
  have hn := h.hn
  rw [turnedR_right (by omega) h.hr h.h0 h.h1, atL_drop, toldZ_congr (fun i _ => lag_is h.h0 h.h1 atL_one i)]
  exact toldZ_list fun i hi => rev_small h.h0 h.h1 h.hs (by omega)
theorem turn_right (h : TurnP P n) : rightPoly ((toldL (revZ (atL P)) n).map rawOf) = true :=
  toldL_right (by have := h.hn; omega) fun i hi => rev_small h.h0 h.h1 h.hs (by have := h.hn; omega)
theorem turn_at0 (h : TurnP P n) : atL (toldL (revZ (atL P)) n) 0 = 0 := by
  by_cases hz : n = 0
  · subst hz; rfl
  · rw [toldL_at _ (by omega)]; rfl
theorem x_told {z : Nat → Int} (h : ∀ i, i < n → z i = xZ i) : toldZ z n = (cutR ([0, 1].map rawOf) n, 0) := by
  have hx : ∀ i, xZ i = atL [0, 1] i := by
    intro i
    unfold xZ atL
    match i with
    | 0 => rfl
    | 1 => rfl
    | i + 2 => simp
  have hz : ∀ i, i < n → z i = atL [0, 1] i := fun i hi => (h i hi).trans (hx i)
  rw [toldZ_list fun i hi => by
    rw [hz i hi]
    exact small_nbits (Nat.le_trans (atL_small (M := 1) (by simp) i) (by omega)), cut_told hz]
theorem turn_a (h : TurnP P n) : withinR (P.map rawOf) ((toldL (revZ (atL P)) n).map rawOf) n = (cutR ([0, 1].map rawOf) n, 0) := by
  have hR0 := turn_at0 h
  have hn := h.hn
  rw [withinR_right (by omega) h.hr (turn_right h) hR0]
  refine x_told fun i hi => ?_
  rw [horn_is hR0 (fun j hj hk => atL_past (by omega)), ← rev_right h.h0 (sq_one h.h1) i]
  exact compZ_congr_right hR0 (revZ_zero _) i fun j hj => toldL_at _ (by omega)
theorem turn_b (h : TurnP P n) : withinR ((toldL (revZ (atL P)) n).map rawOf) (P.map rawOf) n = (cutR ([0, 1].map rawOf) n, 0) := by
  have hn := h.hn
  rw [withinR_right (by omega) (turn_right h) h.hr h.h0]
  refine x_told fun i hi => ?_
  rw [horn_is h.h0 (fun j hj hk => atL_past (by omega)), ← rev_left h.h0 (sq_one h.h1) i]
  exact compZ_congr h.h0 i fun j hj => toldL_at _ (by omega)
theorem turn_back (h : TurnP P n) (h2 : 2 ≤ n) : turnedR ((toldL (revZ (atL P)) n).map rawOf) n = (cutR (P.map rawOf) n, 0) := by
  have hR1 : atL (toldL (revZ (atL P)) n) 1 = atL P 1 := by rw [toldL_at _ (by omega), revZ_one]
  have hR0 := turn_at0 h
  have hn := h.hn
  rw [turnedR_right (by omega) (turn_right h) hR0 (by rw [hR1]; exact h.h1), atL_drop]
  have hz : ∀ i, i < n → lagZ (atL [1]) (overZ (atL [1]) (tailZ (atL (toldL (revZ (atL P)) n)))) i = atL P i := by
    intro i hi
    rw [lag_is hR0 (by rw [hR1]; exact h.h1) atL_one i, revZ_congr (p' := revZ (atL P)) i (fun j hj => toldL_at _ (by omega)) (fun j hj => toldL_at _ (by omega)), rev_rev h.h0 (sq_one h.h1)]
  rw [toldZ_list fun i hi => by rw [hz i hi]; exact small_nbits (h.hs i), cut_told hz]
theorem turn_none (h2 : n < 2) : (toldL (revZ (atL P)) n).length = 0 := by
  rw [toldL_len]
  match n, h2 with
  | 0, _ => rfl
  | 1, _ => rfl
theorem turn_some (h : TurnP P n) (h2 : 2 ≤ n) : ∃ R, (toldL (revZ (atL P)) n).map rawOf = (false, []) :: R := by
  have hl : 1 < topZ (revZ (atL P)) n := topZ_ge (by have := h.h1; rw [revZ_one]; omega) n (by omega)
  obtain ⟨q, hq⟩ : ∃ q, topZ (revZ (atL P)) n = q + 1 := ⟨_, (by omega : topZ (revZ (atL P)) n = (topZ (revZ (atL P)) n - 1) + 1)⟩
  refine ⟨((List.range q).map (fun i => rawOf (revZ (atL P) (i + 1)))), ?_⟩
  unfold toldL
  rw [hq, List.range_succ_eq_map, List.map_cons, List.map_cons, revZ_zero, rawOf_zero, List.map_map, List.map_map]
  rfl
end
/-- What poly makes, where its lowest numbers are 0 and 1 or -1. -/
theorem turn_poly {l : List Int} {s : Int} {N : Nat} (hN : N ≤ l.length) (hN2 : N ≤ 12) (hs : s.natAbs = 1) :
    rightPoly ((trimI (rawL l [0, s] N)).map rawOf) = true ∧ atL (trimI (rawL l [0, s] N)) 0 = 0 ∧ (atL (trimI (rawL l [0, s] N)) 1).natAbs = 1 ∧ ∀ k, (atL (trimI (rawL l [0, s] N)) k).natAbs ≤ 50 := by
  have hsm := rawL_small (l := l) (first := [0, s]) (k := N) (by simp; omega)
  refine ⟨trimI_right ?_ (fun x hx => ?_), ?_, ?_, fun k => ?_⟩
  · rw [rawL_len hN]; simp; omega
  · have := hsm x hx; omega
  · rw [trimI_at]; rfl
  · rw [trimI_at]; exact hs
  · rw [trimI_at]; exact atL_small hsm k
/-! ### the walk -/
set_option maxHeartbeats 1000000 in
set_option maxRecDepth 100000 in
theorem law_SeriesTurned (A : Option Addr) (m c : Nat) (l : List Int) (b : Bool) (terms : Int) (w : World) (h1 : Nums w w.heap.size A l) (e1 : m = l.length) (hm : (m : Int) ≤ 9223372036854775807) :
    Calls Try.prog 6 #[.slice A m c, .bool b, .int .i64 terms] w fun e w' => e = .returned (.bool true) ∧ Below w.heap.size w w' := by
  have HM := Lib.hid e1
  have HMM := Lib.hid hm
  clear e1 hm
  obtain ⟨s, hs⟩ : ∃ s : Int, (if b then -1 else 1) = s := ⟨_, rfl⟩
  have HSS := Lib.hid (show s.natAbs = 1 by rw [← hs]; cases b <;> rfl)
  have HS := Lib.hid hs
  clear hs
  obtain ⟨t, ht⟩ : ∃ t, terms % ((10 : Nat) : Int) = t := ⟨_, rfl⟩
  have htb : 0 ≤ t ∧ t < 10 := by omega
  obtain ⟨n, rfl⟩ : ∃ n : Nat, t = (n : Int) := ⟨t.toNat, by omega⟩
  have HN := Lib.hid ht
  have HN9 := Lib.hid (show n ≤ 9 by omega)
  clear ht htb
  go_enter Try.func6, Try.ntmps6
  go_wp2_with fail
  refine (law_awake _).mono ?_
  rintro e w1 ⟨rfl, hb1⟩
  have h1 := (h1.below hb1).more hb1.size
  go_wp2_with fail
  refine (law_sign b _).mono ?_
  rintro e w0 ⟨rfl, rfl⟩
  rw [HS.out]
  go_wp2_with fail
  have hal := (Below.refl w1.heap.size w1).alloc (Nat.le_refl _) (.cells #[.int .i64 0, .int .i64 s] 3)
  obtain ⟨P, hP⟩ : ∃ P, trimI (rawL l [0, s] (min l.length 12)) = P := ⟨_, rfl⟩
  have HT := Lib.hid (show TurnP P n by
    obtain ⟨k1, k2, k3, k4⟩ := turn_poly (l := l) (s := s) (N := min l.length 12) (Nat.min_le_left _ _) (Nat.min_le_right _ _) HSS.out
    rw [hP] at k1 k2 k3 k4
    exact ⟨k1, k2, k3, k4, HN9.out⟩)
  have hfs : ∀ x ∈ [0, s], -1000 < x ∧ x < 1000 := by
    have := HSS.out
    intro x hx
    simp at hx
    omega
  have k := law_poly A ⟨w1.heap.size, 0, none⟩ m c 2 2 l [0, s] _ ((h1.below hal).more hal.size) (fun j hj => by
    rw [add_plain, cell_of_row _ _ _ _ _ (0, 0) (heap_alloc_new w1 _)]
    match j, hj with
    | 0, _ => rfl
    | 1, _ => rfl) HM.out rfl (by simp) HMM.out hfs
  rw [hP] at k
  refine k.mono ?_
  clear k hP h1
  rintro e w2 ⟨v2, rfl, ht2, hb2⟩
  have hb12 : Below w1.heap.size w1 w2 := hal.trans (hb2.mono hal.size)
  obtain ⟨A2, c2, rfl, hc2, hp2⟩ := ht2.poly
  obtain ⟨l2, hl2⟩ : ∃ l2, (P.map rawOf).length = l2 := ⟨_, rfl⟩
  have HL2 := Lib.hid hl2.symm
  have HC2 := Lib.hid (hl2 ▸ hc2)
  rw [hl2]
  clear hl2 hc2 ht2 hal hb2 hfs
  go_wp2_with fail
  refine (kit_pick terms 10 _ (by omega) (by omega)).mono ?_
  rintro e w0 ⟨rfl, rfl⟩
  rw [HN.out]
  go_wp2_with fail
  have k3 := series_Turned A2 l2 c2 (P.map rawOf) n w2 hp2 HL2.out HC2.out
  rw [turn_is HT.out] at k3
  refine k3.mono ?_
  clear k3
  obtain ⟨R, hR⟩ : ∃ R, toldL (revZ (atL P)) n = R := ⟨_, rfl⟩
  have HR := Lib.hid hR
  rw [hR]
  clear hR
  rintro e w3 ⟨v3, rfl, ht3, hb3⟩
  obtain ⟨A3, c3, rfl, hc3, hp3⟩ := ht3.poly
  have hp2 := (hp2.below hb3).more hb3.size
  obtain ⟨l3, hl3⟩ : ∃ l3, (R.map rawOf).length = l3 := ⟨_, rfl⟩
  have HL3 := Lib.hid hl3.symm
  simp only [hl3] at hc3 ⊢
  have HC3 := Lib.hid hc3
  clear hl3 hc3 ht3
  go_wp2_with fail
  have k4 := series_Within A2 A3 l2 c2 l3 c3 (P.map rawOf) (R.map rawOf) n w3 hp2 hp3 HL2.out HL3.out HC2.out HC3.out
  rw [← HR.out, turn_a HT.out] at k4
  refine k4.mono ?_
  clear k4
  obtain ⟨X, hX⟩ : ∃ X, cutR ([0, 1].map rawOf) n = X := ⟨_, rfl⟩
  have HX := Lib.hid hX
  rw [hX]
  clear hX
  rintro e w4 ⟨v4, rfl, ht4, hb4⟩
  obtain ⟨A4, c4, rfl, hc4, hp4⟩ := ht4.poly
  have hp2 := (hp2.below hb4).more hb4.size
  have hp3 := (hp3.below hb4).more hb4.size
  obtain ⟨l4, hl4⟩ : ∃ l4, X.length = l4 := ⟨_, rfl⟩
  have HL4 := Lib.hid hl4.symm
  simp only [hl4]
  clear hl4 hc4 ht4
  go_wp2_with fail
  have k5 := series_Within A3 A2 l3 c3 l2 c2 (R.map rawOf) (P.map rawOf) n w4 hp3 hp2 HL3.out HL2.out HC3.out HC2.out
  rw [← HR.out, turn_b HT.out, HX.out] at k5
  refine k5.mono ?_
  clear k5
  rintro e w5 ⟨v5, rfl, ht5, hb5⟩
  obtain ⟨A5, c5, rfl, hc5, hp5⟩ := ht5.poly
  have hp2 := (hp2.below hb5).more hb5.size
  have hp3 := (hp3.below hb5).more hb5.size
  have hp4 := (hp4.below hb5).more hb5.size
  simp only [← HL4.out]
  clear hc5 ht5
  go_wp2_with fail
  refine (law_of (some ⟨w5.heap.size, 0, none⟩) 2 2 [0, 1] _ (by simpa using Nums.lit w5 [0, 1] _ 3 rfl) rfl (by omega) (by decide)).mono ?_
  rintro e w6 ⟨v6, rfl, ht6, hb6⟩
  have hb6 : Below w5.heap.size w5 w6 := ((Below.refl _ w5).alloc (Nat.le_refl _) _).trans (hb6.mono (by simp))
  obtain ⟨A6, c6, rfl, hc6, hp6⟩ := ht6.poly
  have hp2 := (hp2.below hb6).more hb6.size
  have hp3 := (hp3.below hb6).more hb6.size
  have hp4 := (hp4.below hb6).more hb6.size
  have hp5 := (hp5.below hb6).more hb6.size
  go_wp2_with fail
  refine (law_cut A6 2 c6 n _ w6 hp6 rfl hc6 (by have := HN9.out; omega)).mono ?_
  rw [HX.out]
  have hp6 := hp6.take (topR ([0, 1].map rawOf) (min ([0, 1].map rawOf).length n))
  rw [show (([0, 1].map rawOf).take (topR ([0, 1].map rawOf) (min ([0, 1].map rawOf).length n))) = X from HX.out] at hp6
  rintro e w0 ⟨rfl, rfl⟩
  simp only [← HL4.out]
  clear ht6 hc6
  have HXS := Lib.hid (show ∀ x ∈ X, x.2.length ≤ 1099511627776 by
    intro x hx
    rw [← HX.out] at hx
    exact raw_lens (l := [0, 1]) (by decide) x (List.mem_of_mem_take hx))
  have HX4 := Lib.hid (show (l4 : Int) ≤ 1099511627776 by
    have h1 := HL4.out
    have h2 := cutR_len ([0, 1].map rawOf) n
    have h3 := topR_le ([0, 1].map rawOf) (min ([0, 1].map rawOf).length n)
    rw [HX.out] at h2
    have h4 : (([0, 1] : List Int).map rawOf).length = 2 := rfl
    omega)
  go_wp2_with fail
  refine (kit_wholes A4 A6 l4 l4 c4 c6 X X w6 hp4 hp6 HL4.out HL4.out HX4.out HXS.out).mono ?_
  rintro e w7 ⟨rfl, hb7⟩
  rw [decide_eq_true rfl]
  have hp2 := (hp2.below hb7).more hb7.size
  have hp3 := (hp3.below hb7).more hb7.size
  have hp5 := (hp5.below hb7).more hb7.size
  have hp6 := (hp6.below hb7).more hb7.size
  go_wp2_with fail
  refine (kit_wholes A5 A6 l4 l4 c5 c6 X X w7 hp5 hp6 HL4.out HL4.out HX4.out HXS.out).mono ?_
  rintro e w8 ⟨rfl, hb8⟩
  rw [decide_eq_true rfl]
  have hp2 := (hp2.below hb8).more hb8.size
  have hp3 := (hp3.below hb8).more hb8.size
  have hbw : Below w.heap.size w w8 := below_trans (below_trans (below_trans (below_trans (below_trans (below_trans (below_trans hb1 hb12) hb3) hb4) hb5) hb6) hb7) hb8
  clear hp4 hp5 hp6 hb1 hb12 hb3 hb4 hb5 hb6 hb7 hb8
  by_cases hn2 : n < 2
  · have HE := Lib.hid (show l3 = 0 by
      have h1 := turn_none (P := P) hn2
      rw [HR.out] at h1
      rw [HL3.out, List.length_map, h1])
    have HCU := HE.out
    subst HCU
    have hn2I : (n : Int) < 2 := by omega
    clear hn2
    go_wp2_with fail
    go_ret
    exact ⟨rfl, hbw⟩
  · obtain ⟨R', hR'⟩ := turn_some HT.out (by omega)
    rw [HR.out] at hR'
    have hpos : 0 < (R.map rawOf).length := by rw [hR']; simp
    obtain ⟨ad, Am, lm, cm, rfl, _, hc0, hc1, hlm, hcm, _⟩ := hp3.at_ (k := 0) hpos
    rw [hR'] at hlm
    have hlm0 : lm = 0 := hlm
    subst hlm0
    have hn2I : (2 : Int) ≤ (n : Int) := by omega
    have HN2 := Lib.hid (show 2 ≤ n by omega)
    have hl3 : (0 : Int) < (l3 : Int) := by have := HL3.out; omega
    have e0 : ad.add (0 * 2) = ad := by rw [Nat.zero_mul]; rfl
    rw [e0] at hc0 hc1
    clear hn2 hlm hR' hpos e0
    go_wp2_with fail
    have k9 := series_Turned (some ad) l3 c3 (R.map rawOf) n w8 hp3 HL3.out HC3.out
    rw [← HR.out, turn_back HT.out HN2.out] at k9
    refine k9.mono ?_
    clear k9
    rintro e w9 ⟨v9, rfl, ht9, hb9⟩
    obtain ⟨A9, c9, rfl, hc9, hp9⟩ := ht9.poly
    have hp2 := (hp2.below hb9).more hb9.size
    obtain ⟨Y, hY⟩ : ∃ Y, cutR (P.map rawOf) n = Y := ⟨_, rfl⟩
    have HY := Lib.hid hY
    simp only [hY] at hp9 hc9 ⊢
    clear hY ht9
    obtain ⟨l9, hl9⟩ : ∃ l9, Y.length = l9 := ⟨_, rfl⟩
    have HL9 := Lib.hid hl9.symm
    simp only [hl9] at hc9 ⊢
    clear hl9
    go_wp2_with fail
    refine (law_cut A2 l2 c2 n _ w9 hp2 HL2.out HC2.out (by have := HN9.out; omega)).mono ?_
    rw [HY.out]
    have hp2 := hp2.take (topR (P.map rawOf) (min (P.map rawOf).length n))
    rw [show ((P.map rawOf).take (topR (P.map rawOf) (min (P.map rawOf).length n))) = Y from HY.out] at hp2
    rintro e w0 ⟨rfl, rfl⟩
    simp only [← HL9.out]
    go_wp2_with fail
    refine (kit_wholes A9 A2 l9 l9 c9 c2 Y Y w9 hp9 hp2 HL9.out HL9.out (by
      have h1 := HL9.out
      have h2 := cutR_len (P.map rawOf) n
      have h3 := topR_le (P.map rawOf) (min (P.map rawOf).length n)
      have h4 := HN9.out
      rw [HY.out] at h2
      omega) (fun x hx => by
      rw [← HY.out] at hx
      exact Nat.le_trans ((right_len HT.out.hr).2 x (List.mem_of_mem_take hx)) (by omega))).mono ?_
    rintro e w10 ⟨rfl, hb10⟩
    rw [decide_eq_true rfl]
    go_wp2_with fail
    go_ret
    exact ⟨rfl, below_trans (below_trans hbw hb9) hb10⟩
end Go.Proofs.Ytmnfokapdipcdaa
