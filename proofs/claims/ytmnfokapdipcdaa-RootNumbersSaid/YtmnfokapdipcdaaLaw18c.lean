import Derived.Test.YtmnfokapdipcdaaLaw18b
/- The law of layer 18: RootOf, RootPerfect. -/
namespace Go.Proofs.Ytmnfokapdipcdaa
open Go.RowKit Go.Deep
theorem rootZ_le {n : Nat} {z : Int} (hn : 1 ≤ n) : (rootZ n z).natAbs ≤ z.natAbs := by
  unfold rootZ
  have h := iroot_le hn z.natAbs
  split
  · omega
  · split
    · rename_i h2
      have h3 := rle_pow_of (n := n) (r := iroot n z.natAbs) hn
      omega
    · omega
/-- Both answers are one. -/
theorem of_both (b : Bool) (xs : List Nat) (n : Int) (hs : Small xs) (hn : n < 9223372036854775808) : ∃ (r : Raw) (E : Int), r.2.length ≤ 1099511627776 ∧
    (∀ A l c w, Lim w w.heap.size A xs → l = xs.length → l ≤ c → Calls Try.prog 37 #[.agg #[.bool b, .slice A l c], .int .i64 n] w fun e w' => ∃ u, e = .returned (.tuple #[u, .int .i64 E]) ∧ RawV w' u r ∧ Below w.heap.size w w') ∧
    (∀ A l c w, Lim w w.heap.size A xs → l = xs.length → l ≤ c → Calls Try.prog 38 #[.agg #[.bool b, .slice A l c], .int .i64 n] w fun e w' => ∃ u, e = .returned (.tuple #[u, .int .i64 E]) ∧ RawV w' u r ∧ Below w.heap.size w w') := by
  by_cases hbad : rightInt (b, xs) = false ∨ n < 1 ∨ (b = true ∧ n % 2 = 0)
  · refine ⟨(false, []), 2, by simp, fun A l c w h1 h2 _ => ?_, fun A l c w h1 h2 _ => ?_⟩
    · refine (root_Of_bad b A l c xs n w h1 h2 hbad hn).mono ?_
      rintro e w' ⟨rfl, hb⟩
      exact ⟨none2, rfl, RawV.none _, hb⟩
    · refine (r18_Of_bad b A l c xs n w h1 h2 hbad hn).mono ?_
      rintro e w' ⟨rfl, hb⟩
      exact ⟨none2, rfl, RawV.none _, hb⟩
  · have h1 : rightInt (b, xs) = true := by
      rcases h : rightInt (b, xs) with _ | _
      · exact absurd (.inl h) hbad
      · rfl
    have h2 : ¬ n < 1 := fun h => hbad (.inr (.inl h))
    have h3 : b = true → ¬ n % 2 = 0 := fun h g => hbad (.inr (.inr ⟨h, g⟩))
    obtain ⟨z, hz, hlc, hlen⟩ := right_int_of hs h1
    obtain ⟨m, rfl⟩ : ∃ m : Nat, n = (m : Int) := ⟨n.toNat, by omega⟩
    have hb : b = decide (z < 0) := congrArg Prod.fst hz
    have hxs : xs = limbs z.natAbs := congrArg Prod.snd hz
    have ho : z < 0 → m % 2 = 1 := fun h => by
      have := h3 (by rw [hb]; exact decide_eq_true h)
      omega
    have hlc4 : lc z.natAbs ≤ 4096 := by omega
    refine ⟨rawOf (rootZ m z), 0, ?_, fun A l c w h1 h2 h3 => ?_, fun A l c w h1 h2 h3 => ?_⟩
    · have h4 := limbs_mono (rootZ_le (n := m) (z := z) (by omega))
      show (limbs (rootZ m z).natAbs).length ≤ _
      unfold lc at hlc4
      omega
    · have hi : IntV w (.agg #[.bool b, .slice A l c]) z := ⟨A, l, c, by rw [hb], by rw [h2, hxs], h3, by rw [← hxs]; exact h1⟩
      refine (root_Of _ z m w hi hlc4 (by omega) (by omega) ho).mono ?_
      rintro e w' ⟨u, rfl, hu, hb⟩
      exact ⟨u, rfl, hu.rawV, hb⟩
    · have hi : IntV w (.agg #[.bool b, .slice A l c]) z := ⟨A, l, c, by rw [hb], by rw [h2, hxs], h3, by rw [← hxs]; exact h1⟩
      refine (r18_Of _ z m w hi hlc4 (by omega) (by omega) ho).mono ?_
      rintro e w' ⟨u, rfl, hu, hb⟩
      exact ⟨u, rfl, hu.rawV, hb⟩
set_option maxHeartbeats 1000000 in
set_option maxRecDepth 100000 in
theorem law_RootOf (b : Bool) (A : Option Addr) (l c : Nat) (xs : List Nat) (n : Int) (w : World) (h1 : Lim w w.heap.size A xs) (hl : l = xs.length) (hc : l ≤ c) (hn : n < 9223372036854775808) :
    Calls Try.prog 8 #[.agg #[.bool b, .slice A l c], .int .i64 n] w fun o w' => o = .returned (.bool true) ∧ Below w.heap.size w w' := by
  have HA := Lib.hid (And.intro h1 (And.intro hl hc))
  have HBO := Lib.hid (of_both b xs n h1.small hn)
  clear h1 hl hc hn
  go_enter Try.func8, Try.ntmps8
  go_upto_region 1 with (fail)
  obtain ⟨W0, g, hW, hg, bx, hbw, -⟩ := box_new w (.bool b) (.slice A l c)
  have hb0 : Below w.heap.size w W0 := by rw [hg]; exact hbw
  have HB0 := Lib.hid hb0
  have HL0 := Lib.hid ((HA.out.1.below hb0).more hb0.size)
  have a0 := bx.cell0
  have a1 := bx.cell1
  rw [hW, hg]
  clear hW hg hbw hb0
  by_cases hlen : l ≤ 16
  · have hlI : (l : Int) ≤ 16 := by omega
    clear hlen
    obtain ⟨raw, E, hrl, hof, hrf⟩ := HBO.out
    have HOF := Lib.hid hof
    have HRF := Lib.hid hrf
    have HRL := Lib.hid hrl
    clear hof hrf hrl HBO
    go_wp2_with fail
    refine (HOF.out A l c W0 HL0.out HA.out.2.1 HA.out.2.2).mono ?_
    rintro e w1 ⟨u1, rfl, hu1, hb1⟩
    have bx1 := bx.below hb1 bx.lt
    have HB1 := Lib.hid (HB0.out.trans (hb1.mono HB0.out.size))
    have HL1 := Lib.hid ((HL0.out.below hb1).more hb1.size)
    obtain ⟨b1, A1, l1, c1, rfl, HU1⟩ := hu1.open
    clear hb1 HB0 HL0 bx hu1 a0 a1
    have hba : Below w1.heap.size w1 (w1.alloc (.cells #[.bool b1, .slice A1 l1 c1] 36)) := (Below.refl _ _).alloc (Nat.le_refl _) _
    have bx2 := bx1.below hba bx1.lt
    have a0 := bx2.cell0
    have a1 := bx2.cell1
    go_wp2_with fail
    clear a0 a1
    obtain ⟨W2, g1, hW, hg1, by2, hbw, -⟩ := box_new w1 (.bool b1) (.slice A1 l1 c1)
    rw [hW] at bx2 hba ⊢
    rw [hg1]
    have HB2 := Lib.hid (HB1.out.trans (hba.mono HB1.out.size))
    have HL2 := Lib.hid ((HL1.out.below hba).more hba.size)
    have HU2 := Lib.hid (HU1.out.below hba)
    clear hW hg1 hbw hba bx1 HB1 HL1 HU1
    refine (HRF.out A l c W2 HL2.out HA.out.2.1 HA.out.2.2).mono ?_
    rintro e w3 ⟨u3, rfl, hu3, hb3⟩
    have bx3 := bx2.below hb3 bx2.lt
    have by3 := by2.below hb3 by2.lt
    have HB3 := Lib.hid (HB2.out.trans (hb3.mono HB2.out.size))
    have HU3 := Lib.hid (HU2.out.below hb3)
    obtain ⟨b3, A3, l3, c3, rfl, HV3⟩ := hu3.open
    clear hb3 HB2 HL2 HU2 bx2 by2 hu3
    have hba : Below w3.heap.size w3 (w3.alloc (.cells #[.bool b3, .slice A3 l3 c3] 36)) := (Below.refl _ _).alloc (Nat.le_refl _) _
    have by4 := by3.below hba by3.lt
    obtain ⟨W4, g4, hW, hg4, bz4, hbw, -⟩ := box_new w3 (.bool b3) (.slice A3 l3 c3)
    rw [hW] at hba by4
    have a0 := by4.cell0
    have a1 := by4.cell1
    have d0 := bz4.cell0
    have d1 := bz4.cell1
    go_wp2_with fail
    clear d0 d1 a0 a1
    have HB4 := Lib.hid (HB3.out.trans (hba.mono HB3.out.size))
    have HU4 := Lib.hid (HU3.out.below hba)
    have HV4 := Lib.hid (HV3.out.below hba)
    refine (law18_is _ _ raw raw E E W4 HU4.out HV4.out HRL.out).mono ?_
    rintro o w5 ⟨rfl, hb5⟩
    rw [show (decide (E = E) && decide (raw = raw)) = true by simp]
    have HB5 := Lib.hid (HB4.out.trans (hb5.mono HB4.out.size))
    clear hba hW hg4 hbw bz4 by4 hb5
    go_wp2_with fail
    refine (law18_awake _).mono ?_
    rintro o w6 ⟨rfl, hb6⟩
    go_wp2_with fail
    go_ret
    exact ⟨rfl, HB5.out.trans (hb6.mono HB5.out.size)⟩
  · have hlI : ¬ (l : Int) ≤ 16 := by omega
    clear hlen
    go_wp2_with fail
    refine (law18_awake _).mono ?_
    rintro o w1 ⟨rfl, hb1⟩
    go_wp2_with fail
    go_ret
    exact ⟨rfl, HB0.out.trans (hb1.mono HB0.out.size)⟩
theorem PerfOf.unique {z y y' : Int} {k k' : Nat} (h : PerfOf z y k) (h' : PerfOf z y' k') : y' = y ∧ k' = k := by
  rcases h with ⟨h0, rfl, rfl⟩ | ⟨h0, x, hp, rfl⟩
  · rcases h' with ⟨_, rfl, rfl⟩ | ⟨g0, _⟩
    · exact ⟨rfl, rfl⟩
    · omega
  · rcases h' with ⟨g0, _⟩ | ⟨g0, x', hp', rfl⟩
    · omega
    · obtain ⟨j, e1, e2⟩ := hp.divides hp'.pos hp'.ok hp'.pow
      obtain ⟨i, e3, e4⟩ := hp'.divides hp.pos hp.ok hp.pow
      have hk : k = k' := by
        have h1 := hp.pos
        have h2 := hp'.pos
        exact Nat.dvd_antisymm ⟨i, e3⟩ ⟨j, e1⟩
      subst hk
      have hx : x' = x := pow_inj_of hp.pos (by rw [hp'.pow, hp.pow])
      exact ⟨by rw [hx], rfl⟩
theorem perfOf_le {z y : Int} {k : Nat} (h : PerfOf z y k) : y.natAbs ≤ z.natAbs := by
  rcases h with ⟨_, rfl, _⟩ | ⟨_, x, hp, rfl⟩
  · exact Nat.le_refl _
  · rw [signed_natAbs, ← hp.pow]
    exact rle_pow_of hp.pos
theorem perf_descend (neg : Bool) : ∀ N x, x ≤ N → 2 ≤ x → ∃ y n, 1 ≤ n ∧ okE neg n ∧ y ^ n = x ∧ ∀ q, 2 ≤ q → okE neg q → ∀ t, t ^ q ≠ y := by
  intro N
  induction N with
  | zero => intro x h1 h2; omega
  | succ N ih =>
    intro x h1 h2
    by_cases h : ∀ q, 2 ≤ q → okE neg q → ∀ t, t ^ q ≠ x
    · exact ⟨x, 1, Nat.le_refl _, fun _ => rfl, Nat.pow_one _, h⟩
    · obtain ⟨q, hq⟩ := Classical.not_forall.1 h
      obtain ⟨hq2, hq⟩ := Classical.not_forall.1 hq
      obtain ⟨ho, hq⟩ := Classical.not_forall.1 hq
      obtain ⟨t, ht⟩ := Classical.not_forall.1 hq
      have ht := Classical.not_not.1 ht
      have ht2 := two_le_of_pow ht h2
      have hlt : t < x := by
        have h1 := Nat.pow_lt_pow_right (a := t) (m := 1) (n := q) ht2 hq2
        rw [Nat.pow_one, ht] at h1
        exact h1
      obtain ⟨y, n, a1, a2, a3, a4⟩ := ih t (by omega) ht2
      exact ⟨y, n * q, Nat.mul_pos a1 (by omega), okE_mul a2 ho, by rw [Nat.pow_mul, a3, ht], a4⟩
theorem perf_exists (z : Int) : ∃ y k, PerfOf z y k := by
  by_cases h : z.natAbs < 2
  · exact ⟨z, 1, .inl ⟨h, rfl, rfl⟩⟩
  · obtain ⟨y, n, h1, h2, h3, h4⟩ := perf_descend (decide (z < 0)) z.natAbs z.natAbs (Nat.le_refl _) (by omega)
    exact ⟨_, n, .inr ⟨by omega, y, ⟨h3, h1, h2, h4⟩, rfl⟩⟩
/-- Both answers are one. -/
theorem perfect_both (b : Bool) (xs : List Nat) (hs : Small xs) : ∃ (r : Raw) (k E : Int), r.2.length ≤ 1099511627776 ∧
    (∀ A l c w, Lim w w.heap.size A xs → l = xs.length → l ≤ c → Calls Try.prog 39 #[.agg #[.bool b, .slice A l c]] w fun e w' => ∃ u, e = .returned (.tuple #[u, .int .i64 k, .int .i64 E]) ∧ RawV w' u r ∧ Below w.heap.size w w') ∧
    (∀ A l c w, Lim w w.heap.size A xs → l = xs.length → l ≤ c → Calls Try.prog 40 #[.agg #[.bool b, .slice A l c]] w fun e w' => ∃ u, e = .returned (.tuple #[u, .int .i64 k, .int .i64 E]) ∧ RawV w' u r ∧ Below w.heap.size w w') := by
  by_cases hbad : rightInt (b, xs) = false
  · refine ⟨(false, []), 0, 2, by simp, fun A l c w h1 h2 _ => ?_, fun A l c w h1 h2 _ => ?_⟩
    · refine (root_Perfect_bad b A l c xs w h1 h2 hbad).mono ?_
      rintro e w' ⟨rfl, hb⟩
      exact ⟨none2, rfl, RawV.none _, hb⟩
    · refine (r18_Perfect_bad b A l c xs w h1 h2 hbad).mono ?_
      rintro e w' ⟨rfl, hb⟩
      exact ⟨none2, rfl, RawV.none _, hb⟩
  · have h1 : rightInt (b, xs) = true := by
      rcases h : rightInt (b, xs) with _ | _
      · exact absurd h hbad
      · rfl
    obtain ⟨z, hz, hlc, hlen⟩ := right_int_of hs h1
    have hb : b = decide (z < 0) := congrArg Prod.fst hz
    have hxs : xs = limbs z.natAbs := congrArg Prod.snd hz
    have hlc4 : lc z.natAbs ≤ 4096 := by omega
    obtain ⟨y, k, hp⟩ := perf_exists z
    have hyl : (limbs y.natAbs).length ≤ 4096 := Nat.le_trans (limbs_mono (perfOf_le hp)) hlc4
    refine ⟨rawOf y, (k : Int), 0, by show (limbs y.natAbs).length ≤ _; omega, fun A l c w h1 h2 h3 => ?_, fun A l c w h1 h2 h3 => ?_⟩
    · have hi : IntV w (.agg #[.bool b, .slice A l c]) z := ⟨A, l, c, by rw [hb], by rw [h2, hxs], h3, by rw [← hxs]; exact h1⟩
      refine (root_Perfect _ z w hi hlc4).mono ?_
      rintro e w' ⟨u, y', k', rfl, hp', hu, hb⟩
      obtain ⟨rfl, rfl⟩ := hp'.unique hp
      exact ⟨u, rfl, hu.rawV, hb⟩
    · have hi : IntV w (.agg #[.bool b, .slice A l c]) z := ⟨A, l, c, by rw [hb], by rw [h2, hxs], h3, by rw [← hxs]; exact h1⟩
      refine (r18_Perfect _ z w hi hlc4).mono ?_
      rintro e w' ⟨u, y', k', rfl, hp', hu, hb⟩
      obtain ⟨rfl, rfl⟩ := hp'.same hp
      exact ⟨u, rfl, hu.rawV, hb⟩
set_option maxHeartbeats 1000000 in
set_option maxRecDepth 100000 in
theorem law_RootPerfect (b : Bool) (A : Option Addr) (l c : Nat) (xs : List Nat) (w : World) (h1 : Lim w w.heap.size A xs) (hl : l = xs.length) (hc : l ≤ c) :
    Calls Try.prog 9 #[.agg #[.bool b, .slice A l c]] w fun o w' => o = .returned (.bool true) ∧ Below w.heap.size w w' := by
  have HA := Lib.hid (And.intro h1 (And.intro hl hc))
  have HBO := Lib.hid (perfect_both b xs h1.small)
  clear h1 hl hc
  go_enter Try.func9, Try.ntmps9
  go_upto_region 1 with (fail)
  obtain ⟨W0, g, hW, hg, bx, hbw, -⟩ := box_new w (.bool b) (.slice A l c)
  have hb0 : Below w.heap.size w W0 := by rw [hg]; exact hbw
  have HB0 := Lib.hid hb0
  have HL0 := Lib.hid ((HA.out.1.below hb0).more hb0.size)
  have a0 := bx.cell0
  have a1 := bx.cell1
  rw [hW, hg]
  clear hW hg hbw hb0
  by_cases hlen : l ≤ 5
  · have hlI : (l : Int) ≤ 5 := by omega
    clear hlen
    obtain ⟨raw, k, E, hrl, hof, hrf⟩ := HBO.out
    have HOF := Lib.hid hof
    have HRF := Lib.hid hrf
    have HRL := Lib.hid hrl
    clear hof hrf hrl HBO
    go_wp2_with fail
    refine (HOF.out A l c W0 HL0.out HA.out.2.1 HA.out.2.2).mono ?_
    rintro e w1 ⟨u1, rfl, hu1, hb1⟩
    have bx1 := bx.below hb1 bx.lt
    have HB1 := Lib.hid (HB0.out.trans (hb1.mono HB0.out.size))
    have HL1 := Lib.hid ((HL0.out.below hb1).more hb1.size)
    obtain ⟨b1, A1, l1, c1, rfl, HU1⟩ := hu1.open
    clear hb1 HB0 HL0 bx hu1 a0 a1
    have hba : Below w1.heap.size w1 (w1.alloc (.cells #[.bool b1, .slice A1 l1 c1] 36)) := (Below.refl _ _).alloc (Nat.le_refl _) _
    have bx2 := bx1.below hba bx1.lt
    have a0 := bx2.cell0
    have a1 := bx2.cell1
    go_wp2_with fail
    clear a0 a1
    obtain ⟨W2, g1, hW, hg1, by2, hbw, -⟩ := box_new w1 (.bool b1) (.slice A1 l1 c1)
    rw [hW] at bx2 hba ⊢
    rw [hg1]
    have HB2 := Lib.hid (HB1.out.trans (hba.mono HB1.out.size))
    have HL2 := Lib.hid ((HL1.out.below hba).more hba.size)
    have HU2 := Lib.hid (HU1.out.below hba)
    clear hW hg1 hbw hba bx1 HB1 HL1 HU1
    refine (HRF.out A l c W2 HL2.out HA.out.2.1 HA.out.2.2).mono ?_
    rintro e w3 ⟨u3, rfl, hu3, hb3⟩
    have bx3 := bx2.below hb3 bx2.lt
    have by3 := by2.below hb3 by2.lt
    have HB3 := Lib.hid (HB2.out.trans (hb3.mono HB2.out.size))
    have HU3 := Lib.hid (HU2.out.below hb3)
    obtain ⟨b3, A3, l3, c3, rfl, HV3⟩ := hu3.open
    clear hb3 HB2 HL2 HU2 bx2 by2 hu3
    have hba : Below w3.heap.size w3 (w3.alloc (.cells #[.bool b3, .slice A3 l3 c3] 36)) := (Below.refl _ _).alloc (Nat.le_refl _) _
    have by4 := by3.below hba by3.lt
    obtain ⟨W4, g4, hW, hg4, bz4, hbw, -⟩ := box_new w3 (.bool b3) (.slice A3 l3 c3)
    rw [hW] at hba by4
    have a0 := by4.cell0
    have a1 := by4.cell1
    have d0 := bz4.cell0
    have d1 := bz4.cell1
    go_wp2_with fail
    clear d0 d1 a0 a1
    have HB4 := Lib.hid (HB3.out.trans (hba.mono HB3.out.size))
    have HU4 := Lib.hid (HU3.out.below hba)
    have HV4 := Lib.hid (HV3.out.below hba)
    refine (law18_is _ _ raw raw E E W4 HU4.out HV4.out HRL.out).mono ?_
    rintro o w5 ⟨rfl, hb5⟩
    rw [show (decide (E = E) && decide (raw = raw)) = true by simp]
    have HB5 := Lib.hid (HB4.out.trans (hb5.mono HB4.out.size))
    clear hba hW hg4 hbw bz4 by4 hb5
    go_wp2_with fail
    refine (law18_awake _).mono ?_
    rintro o w6 ⟨rfl, hb6⟩
    go_wp2_with fail
    go_ret
    exact ⟨rfl, HB5.out.trans (hb6.mono HB5.out.size)⟩
  · have hlI : ¬ (l : Int) ≤ 5 := by omega
    clear hlen
    go_wp2_with fail
    refine (law18_awake _).mono ?_
    rintro o w1 ⟨rfl, hb1⟩
    go_wp2_with fail
    go_ret
    exact ⟨rfl, HB0.out.trans (hb1.mono HB0.out.size)⟩
end Go.Proofs.Ytmnfokapdipcdaa
