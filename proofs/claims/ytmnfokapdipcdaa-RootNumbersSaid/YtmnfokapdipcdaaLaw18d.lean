import Derived.Test.YtmnfokapdipcdaaLaw18b
import Derived.Test.YtmnfokapdipcdaaR18e
/- The law of layer 18: RootSquares. -/
namespace Go.Proofs.Ytmnfokapdipcdaa
open Go.RowKit Go.Deep
/-- Both answers are one. -/
theorem square_both (b : Bool) (xs : List Nat) (hs : Small xs) : ∃ (r t : Raw) (E : Int), r.2.length ≤ 1099511627776 ∧ t.2.length ≤ 1099511627776 ∧
    (∀ A l c w, Lim w w.heap.size A xs → l = xs.length → l ≤ c → Calls Try.prog 34 #[.agg #[.bool b, .slice A l c]] w fun e w' => ∃ u v, e = .returned (.tuple #[u, v, .int .i64 E]) ∧ RawV w' u r ∧ RawV w' v t ∧ Below w.heap.size w w') ∧
    (∀ A l c w, Lim w w.heap.size A xs → l = xs.length → l ≤ c → Calls Try.prog 35 #[.agg #[.bool b, .slice A l c]] w fun e w' => ∃ u v, e = .returned (.tuple #[u, v, .int .i64 E]) ∧ RawV w' u r ∧ RawV w' v t ∧ Below w.heap.size w w') := by
  by_cases hbad : rightInt (b, xs) = false ∨ b = true
  · refine ⟨(false, []), (false, []), 2, by simp, by simp, fun A l c w h1 h2 _ => ?_, fun A l c w h1 h2 _ => ?_⟩
    · refine (root_Square_bad b A l c xs w h1 h2 hbad).mono ?_
      rintro e w' ⟨rfl, hb⟩
      exact ⟨none2, none2, rfl, RawV.none _, RawV.none _, hb⟩
    · refine (r18_Square_bad b A l c xs w h1 h2 hbad).mono ?_
      rintro e w' ⟨rfl, hb⟩
      exact ⟨none2, none2, rfl, RawV.none _, RawV.none _, hb⟩
  · have h1 : rightInt (b, xs) = true := by
      rcases h : rightInt (b, xs) with _ | _
      · exact absurd (.inl h) hbad
      · rfl
    have hb0 : ¬ b = true := fun h => hbad (.inr h)
    obtain ⟨z, hz, hlc, hlen⟩ := right_int_of hs h1
    have hb : b = decide (z < 0) := congrArg Prod.fst hz
    have hxs : xs = limbs z.natAbs := congrArg Prod.snd hz
    obtain ⟨a, rfl⟩ : ∃ a : Nat, z = (a : Int) := ⟨z.natAbs, by
      have : ¬ z < 0 := fun h => hb0 (by rw [hb]; exact decide_eq_true h)
      omega⟩
    rw [Int.natAbs_natCast] at hlc hxs
    have hlc4 : lc a ≤ 4096 := by omega
    refine ⟨rawOf (isqrt a : Nat), rawOf (a - isqrt a * isqrt a : Nat), 0, ?_, ?_, fun A l c w h1 h2 h3 => ?_, fun A l c w h1 h2 h3 => ?_⟩
    · have h4 := limbs_mono (isqrt_self a)
      show (limbs ((isqrt a : Nat) : Int).natAbs).length ≤ _
      rw [Int.natAbs_natCast]
      unfold lc at hlc4
      omega
    · have h4 := limbs_mono (Nat.sub_le a (isqrt a * isqrt a))
      show (limbs ((a - isqrt a * isqrt a : Nat) : Int).natAbs).length ≤ _
      rw [Int.natAbs_natCast]
      unfold lc at hlc4
      omega
    · have hi : IntV w (.agg #[.bool b, .slice A l c]) ((a : Nat) : Int) := ⟨A, l, c, by rw [hb], by rw [h2, hxs, Int.natAbs_natCast], h3, by rw [Int.natAbs_natCast, ← hxs]; exact h1⟩
      refine (root_Square _ a w hi hlc4).mono ?_
      rintro e w' ⟨u, v, rfl, hu, hv, hb⟩
      exact ⟨u, v, rfl, hu.rawV, hv.rawV, hb⟩
    · have hi : IntV w (.agg #[.bool b, .slice A l c]) ((a : Nat) : Int) := ⟨A, l, c, by rw [hb], by rw [h2, hxs, Int.natAbs_natCast], h3, by rw [Int.natAbs_natCast, ← hxs]; exact h1⟩
      refine (r18_Square _ a w hi hlc4).mono ?_
      rintro e w' ⟨u, v, rfl, hu, hv, hb⟩
      exact ⟨u, v, rfl, hu.rawV, hv.rawV, hb⟩
set_option maxHeartbeats 1000000 in
set_option maxRecDepth 100000 in
theorem law_RootSquares (b : Bool) (A : Option Addr) (l c : Nat) (xs : List Nat) (w : World) (h1 : Lim w w.heap.size A xs) (hl : l = xs.length) (hc : l ≤ c) :
    Calls Try.prog 7 #[.agg #[.bool b, .slice A l c]] w fun o w' => o = .returned (.bool true) ∧ Below w.heap.size w w' := by
  have HA := Lib.hid (And.intro h1 (And.intro hl hc))
  have HBO := Lib.hid (square_both b xs h1.small)
  clear h1 hl hc
  go_enter Try.func7, Try.ntmps7
  go_upto_region 1 with (fail)
  obtain ⟨W0, g, hW, hg, bx, hbw, -⟩ := box_new w (.bool b) (.slice A l c)
  have hb0 : Below w.heap.size w W0 := by rw [hg]; exact hbw
  have HB0 := Lib.hid hb0
  have HL0 := Lib.hid ((HA.out.1.below hb0).more hb0.size)
  have a0 := bx.cell0
  have a1 := bx.cell1
  rw [hW, hg]
  clear hW hg hbw hb0
  by_cases hlen : l ≤ 16
  · have hlI : (l : Int) ≤ 16 := by omega
    clear hlen
    obtain ⟨raw, rat, E, hrl, htl, hof, hrf⟩ := HBO.out
    have HOF := Lib.hid hof
    have HRF := Lib.hid hrf
    have HRL := Lib.hid (And.intro hrl htl)
    clear hof hrf hrl htl HBO
    go_wp2_with fail
    refine (HOF.out A l c W0 HL0.out HA.out.2.1 HA.out.2.2).mono ?_
    rintro e w1 ⟨u1, t1, rfl, hu1, ht1, hb1⟩
    have bx1 := bx.below hb1 bx.lt
    have HB1 := Lib.hid (HB0.out.trans (hb1.mono HB0.out.size))
    have HL1 := Lib.hid ((HL0.out.below hb1).more hb1.size)
    obtain ⟨b1, A1, l1, c1, rfl, HU1⟩ := hu1.open
    obtain ⟨d1, D1, m1, k1, rfl, HT1⟩ := ht1.open
    clear hb1 HB0 HL0 bx hu1 ht1 a0 a1
    obtain ⟨W2, g1, g2, hW, hg1, -, rfl, by1, by2, hbw, -⟩ := box_two w1 (.bool b1) (.slice A1 l1 c1) (.bool d1) (.slice D1 m1 k1)
    have hb2 : Below w1.heap.size w1 W2 := by rw [hg1]; exact hbw
    have bx2 := bx1.below hb2 bx1.lt
    have HB2 := Lib.hid (HB1.out.trans (hb2.mono HB1.out.size))
    have HL2 := Lib.hid ((HL1.out.below hb2).more hb2.size)
    have HU2 := Lib.hid (HU1.out.below hb2)
    have HT2 := Lib.hid (HT1.out.below hb2)
    have a0 := bx2.cell0
    have a1 := bx2.cell1
    clear hbw hb2 bx1 HB1 HL1 HU1 HT1
    go_wp2_with fail
    clear hW hg1 a0 a1
    refine (HRF.out A l c W2 HL2.out HA.out.2.1 HA.out.2.2).mono ?_
    rintro e w3 ⟨u3, t3, rfl, hu3, ht3, hb3⟩
    have bz1 := by1.below hb3 by1.lt
    have bz2 := by2.below hb3 by2.lt
    have HB3 := Lib.hid (HB2.out.trans (hb3.mono HB2.out.size))
    have HU3 := Lib.hid (HU2.out.below hb3)
    have HT3 := Lib.hid (HT2.out.below hb3)
    obtain ⟨b3, A3, l3, c3, rfl, HV3⟩ := hu3.open
    obtain ⟨d3, D3, m3, k3, rfl, HS3⟩ := ht3.open
    clear hb3 HB2 HL2 HU2 HT2 bx2 by1 by2 hu3 ht3
    obtain ⟨W4, g3, g4, hW, hg3, -, rfl, bv1, bv2, hbw, -⟩ := box_two w3 (.bool b3) (.slice A3 l3 c3) (.bool d3) (.slice D3 m3 k3)
    have hb4 : Below w3.heap.size w3 W4 := by rw [hg3]; exact hbw
    have by1 := bz1.below hb4 bz1.lt
    have by2 := bz2.below hb4 bz2.lt
    have HB4 := Lib.hid (HB3.out.trans (hb4.mono HB3.out.size))
    have HU4 := Lib.hid (HU3.out.below hb4)
    have HT4 := Lib.hid (HT3.out.below hb4)
    have HV4 := Lib.hid (HV3.out.below hb4)
    have HS4 := Lib.hid (HS3.out.below hb4)
    have a0 := by1.cell0
    have a1 := by1.cell1
    have d0 := bv1.cell0
    have d1' := bv1.cell1
    clear hbw hb4 bz1 bz2 HB3 HU3 HT3 HV3 HS3
    go_wp2_with fail
    clear a0 a1 d0 d1' hW hg3
    refine (law18_is _ _ raw raw E E W4 HU4.out HV4.out HRL.out.1).mono ?_
    rintro o w5 ⟨rfl, hb5⟩
    rw [show (decide (E = E) && decide (raw = raw)) = true by simp]
    have HB5 := Lib.hid (HB4.out.trans (hb5.mono HB4.out.size))
    have HT5 := Lib.hid (HT4.out.below hb5)
    have HS5 := Lib.hid (HS4.out.below hb5)
    have bw2 := by2.below hb5 by2.lt
    have bx2 := bv2.below hb5 bv2.lt
    have a0 := bw2.cell0
    have a1 := bw2.cell1
    have d0 := bx2.cell0
    have d1' := bx2.cell1
    clear hb5 by1 by2 bv1 bv2
    go_wp2_with fail
    refine (law18_is _ _ rat rat E E w5 HT5.out HS5.out HRL.out.2).mono ?_
    rintro o w6 ⟨rfl, hb6⟩
    rw [show (decide (E = E) && decide (rat = rat)) = true by simp]
    have HB6 := Lib.hid (HB5.out.trans (hb6.mono HB5.out.size))
    clear hb6 a0 a1 d0 d1'
    go_wp2_with fail
    refine (law18_awake _).mono ?_
    rintro o w7 ⟨rfl, hb7⟩
    go_wp2_with fail
    go_ret
    exact ⟨rfl, HB6.out.trans (hb7.mono HB6.out.size)⟩
  · have hlI : ¬ (l : Int) ≤ 16 := by omega
    clear hlen
    go_wp2_with fail
    refine (law18_awake _).mono ?_
    rintro o w1 ⟨rfl, hb1⟩
    go_wp2_with fail
    go_ret
    exact ⟨rfl, HB0.out.trans (hb1.mono HB0.out.size)⟩
end Go.Proofs.Ytmnfokapdipcdaa
