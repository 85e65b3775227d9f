import Derived.Test.YtmnfokapdipcdaaR24i
/- The package rosetteref24: Turned. -/
namespace Go.Proofs.Ytmnfokapdipcdaa
open Go.RowKit Go.Deep
/-! ### plain -/
theorem zAt_drop (xs : List Raw) : zAt (xs.drop 1) = tailZ (zAt xs) := by
  funext k
  show zAt (xs.drop 1) k = zAt xs (k + 1)
  unfold zAt
  rw [show (xs.drop 1).getD k (false, []) = xs.getD (k + 1) (false, []) by
    rw [List.getD_eq_getElem?_getD, List.getD_eq_getElem?_getD, List.getElem?_drop, Nat.add_comm]]
theorem unitAt_nat {xs : List Raw} {k : Nat} (h : unitAt xs k = true) : (zAt xs k).natAbs = 1 := by
  unfold unitAt at h
  simp only [Bool.and_eq_true, beq_iff_eq] at h
  unfold zAt
  rw [signed_natAbs]
  obtain ⟨h1, h2⟩ := h
  match hx : (xs.getD k (false, [])).2 with
  | [] => rw [hx] at h1; simp at h1
  | [x] => rw [hx] at h2; simp at h2; subst h2; simp [val]
  | _ :: _ :: _ => rw [hx] at h1; simp at h1
theorem turned_same {xp : List Raw} {n : Nat} (h0 : noughtAt xp 0 = true) (h1 : unitAt xp 1 = true) : toldZ (lagZ (zAt one1) (overZ (zAt one1) (zAt (xp.drop 1)))) n = toldZ (revZ (zAt xp)) n := by
  rw [zAt_drop, zAt_one1]
  exact toldZ_congr fun m _ => lag_is (nought_zAt h0) (unitAt_nat h1) (fun _ => rfl) m
/-- A bound for the numbers of a turned series of at most 10 terms. -/
def turnB (t : Nat) : Nat := (4096 * (4 * W64 ^ t) ^ 10) ^ 10
theorem turnB_two (t : Nat) : turnB t = 2 ^ ((12 + (2 + 64 * t) * 10) * 10) := by
  unfold turnB
  rw [show (4 : Nat) * W64 ^ t = 2 ^ (2 + 64 * t) by rw [W64_two, ← Nat.pow_mul, Nat.pow_add], ← Nat.pow_mul, show (4096 : Nat) = 2 ^ 12 from rfl, ← Nat.pow_add, ← Nat.pow_mul]
theorem turnB_pos (t : Nat) : 0 < turnB t := by rw [turnB_two]; exact Nat.pow_pos (by omega)
theorem turnB_lc {n t : Nat} (hn : n ≤ 10) (ht : t = 4) : lc (4096 * ((4096 * turnB t) ^ n * turnB t)) ≤ 67108864 := by
  have h1 : 4096 * ((4096 * turnB t) ^ n * turnB t) = (4096 * turnB t) ^ (n + 1) := by
    rw [Nat.pow_succ]
    generalize (4096 * turnB t) ^ n = P
    generalize turnB t = Q
    grind
  rw [h1]
  refine lc_pow_le (b := 12 + (12 + (2 + 64 * t) * 10) * 10) ?_ (Nat.le_of_eq (by rw [turnB_two, show (4096 : Nat) = 2 ^ 12 from rfl, ← Nat.pow_add]))
  subst ht
  omega
theorem turnB_le (t : Nat) : W64 ^ t ≤ turnB t := by
  rw [turnB_two, W64_two, ← Nat.pow_mul]
  exact Nat.pow_le_pow_right (by omega) (by omega)
theorem rev_bound {p : Nat → Int} {t : Nat} (hp : p 0 = 0) (h1 : (p 1).natAbs = 1) (hs : ∀ k, (p k).natAbs ≤ W64 ^ t) {i : Nat} (hi : i < 10) : (revZ p i).natAbs ≤ turnB t := by
  have e := lag_is hp h1 (a := constZ 1) (fun _ => rfl) i
  have hW : 0 < W64 ^ t := Nat.pow_pos W64_pos
  have hc : ∀ k, (constZ 1 k).natAbs ≤ 1 := fun k => by unfold constZ; split <;> simp
  have hf : ∀ k, k < 10 → (overZ (constZ 1) (tailZ p) k).natAbs ≤ (4 * W64 ^ t) ^ 10 := fun k hk =>
    Nat.le_trans (overZ_small (n := 10) (M := W64 ^ t) hW (fun k _ => Nat.le_trans (hc k) hW) (fun k _ => hs (k + 1)) k hk) (Nat.pow_le_pow_right (Nat.mul_pos (by omega) hW) (by omega))
  have hw := powZ_small (n := 10) (by omega) (fun k _ => hc k) hf i (i - 1) (by omega)
  rw [← e]
  unfold lagZ
  split
  · exact Nat.zero_le _
  · refine Nat.le_trans ?_ (Nat.le_trans hw (Nat.pow_le_pow_right (Nat.mul_pos (by omega) (Nat.pow_pos (Nat.mul_pos (by omega) hW))) (by omega)))
    rw [Int.natAbs_tdiv]; exact Nat.div_le_self _ _
theorem cut_bound {r : Nat → Int} {M n k : Nat} (h : ∀ i, i < n → (r i).natAbs ≤ M) (i : Nat) (hi : i < n) : (cutZ r k i).natAbs ≤ M := by
  unfold cutZ
  split
  · exact h i hi
  · exact Nat.zero_le _
theorem cut_set (r : Nat → Int) {k m : Nat} (h : m ≠ k) : cutZ r k m = cutZ r (k + 1) m := by
  unfold cutZ
  by_cases h1 : m < k
  · rw [if_pos h1, if_pos (by omega)]
  · rw [if_neg h1, if_neg (by omega)]
theorem cut_at (r : Nat → Int) (k : Nat) : cutZ r (k + 1) k = r k := if_pos (by omega)
theorem mayE_begin (terms : Int) (xp : List Raw) : beginE terms (rightPoly xp) = mayE terms [xp] := by
  unfold beginE mayE
  have e : [xp].all rightPoly = rightPoly xp := by simp
  rw [e]
  cases rightPoly xp
  · by_cases h : terms < 0 <;> simp [h]
  · by_cases h : terms < 0 <;> simp [h]
set_option maxHeartbeats 1000000 in
set_option maxRecDepth 100000 in
theorem r24_Turned (Ap : Option Addr) (lp cp : Nat) (xp : List Raw) (terms : Int) (w : World) (hp : Poly w w.heap.size Ap xp) (hlp : lp = xp.length)
    (ht : terms ≤ 10 ∨ 4096 < terms) (hsp : ∀ x ∈ xp, x.2.length ≤ 4) :
    Calls Try.prog 26 #[.slice Ap lp cp, .int .i64 terms] w fun e w' => ∃ v, e = .returned (.tuple #[v, .int .i64 (turnedR xp terms).2]) ∧ Told w' w.heap.size v (turnedR xp terms).1 ∧ Below w.heap.size w w' := by
  have HLP := Lib.hid hlp
  have HT := Lib.hid ht
  have HSP := Lib.hid hsp
  obtain ⟨E, hE⟩ : ∃ E, mayE terms [xp] = E := ⟨_, rfl⟩
  have HM := Lib.hid hE
  have HB := Lib.hid (mayE_begin terms xp)
  obtain ⟨rp, hrp⟩ : ∃ r, rightPoly xp = r := ⟨_, rfl⟩
  have HRP := Lib.hid hrp
  have HO := Lib.hid (show turnedR xp terms = if E ≠ 0 then ([], E) else if noughtAt xp 0 && unitAt xp 1 then toldZ (lagZ (zAt one1) (overZ (zAt one1) (zAt (xp.drop 1)))) terms.toNat else ([], 340) by rw [turnedR, hE])
  clear hlp hE hrp ht hsp
  go_enter Try.func26, Try.ntmps26
  go_wp2_with fail
  refine (r24_right Ap lp cp xp w hp HLP.out).mono ?_
  rintro e wc ⟨rfl, hbc⟩
  rw [HRP.out]
  go_wp2_with fail
  refine (r24_begin terms rp wc).mono ?_
  rintro e w3 ⟨rfl, rfl⟩
  have HE := Lib.hid (show beginE terms rp = E by
    have h := HB.out
    rw [HRP.out, HM.out] at h
    exact h)
  rw [HE.out]
  have hpc := (hp.below hbc).more hbc.size
  by_cases hE0 : E = 0
  · subst hE0
    obtain ⟨h0, h4, hr⟩ := mayE_zero HM.out
    obtain ⟨n, rfl⟩ : ∃ n : Nat, terms = (n : Int) := ⟨terms.toNat, by omega⟩
    clear hr
    by_cases hl2 : lp < 2
    · have HE2 := Lib.hid (show turnedR xp (n : Int) = ([], 340) by
        have hu : unitAt xp 1 = false := by
          unfold unitAt
          rw [show xp.getD 1 (false, []) = (false, []) by simp [show xp[1]? = none from List.getElem?_eq_none (by have := HLP.out; omega)]]; rfl
        rw [HO.out, hu, Bool.and_false]; rfl)
      have hlI : (lp : Int) < 2 := by omega
      clear HO hl2
      go_wp2_with fail
      go_ret2
      rw [HE2.out]
      exact ⟨_, rfl, Told.nil _ hbc.size, hbc⟩
    · obtain ⟨ad, Am, lm, cm, rfl, _, hc0, hc1, hlm, hcm, _⟩ := hpc.at_ (k := 0) (by rw [← HLP.out]; omega)
      have e0 : ad.add (0 * 2) = ad := by rw [Nat.zero_mul]; rfl
      rw [e0] at hc0 hc1
      have hlI : (2 : Int) ≤ (lp : Int) := by omega
      have hlN : 0 < lp := by omega
      by_cases hm : lm = 0
      · subst hm
        have HN0 := Lib.hid (show noughtAt xp 0 = true by unfold noughtAt; rw [← hlm]; rfl)
        clear hl2 hlm hcm e0
        go_wp2_with fail
        refine (r24_unit 1 (some ad) lp cp xp wc hpc HLP.out).mono ?_
        rintro e w2 ⟨rfl, rfl⟩
        obtain ⟨un, hun⟩ : ∃ un, unitAt xp 1 = un := ⟨_, rfl⟩
        have HU := Lib.hid hun
        rw [hun]
        clear hun
        cases un with
        | false =>
          have HE2 := Lib.hid (show turnedR xp (n : Int) = ([], 340) by rw [HO.out, HU.out, Bool.and_false]; rfl)
          clear HO
          go_wp2_with fail
          go_ret2
          rw [HE2.out]
          exact ⟨_, rfl, Told.nil _ hbc.size, hbc⟩
        | true =>
          have HO2 := Lib.hid (show turnedR xp (n : Int) = toldZ (revZ (zAt xp)) n by rw [HO.out, HN0.out, HU.out, turned_same HN0.out HU.out]; rfl)
          clear HO
          have HN := Lib.hid (show n ≤ 10 by have := HT.out; omega)
          have HP0 := Lib.hid (nought_zAt HN0.out)
          have HP1 := Lib.hid (unitAt_nat HU.out)
          obtain ⟨t, ht4⟩ : ∃ t, t = 4 := ⟨_, rfl⟩
          have HA := Lib.hid (zAt_small (t := t) (fun x hx => by have := HSP.out x hx; omega) hp.small)
          have HR := Lib.hid (fun i (hi : i < 10) => rev_bound HP0.out HP1.out HA.out hi)
          have HLC := Lib.hid (turnB_lc HN.out ht4)
          obtain ⟨M, hM⟩ : ∃ M, turnB t = M := ⟨_, rfl⟩
          have HM0 := Lib.hid (turnB_pos t)
          have HAM := Lib.hid (fun k => Nat.le_trans (HA.out k) (turnB_le t))
          rw [hM] at HR HLC HM0 HAM
          clear hM ht4 HA
          obtain ⟨r, hr⟩ : ∃ r, revZ (zAt xp) = r := ⟨_, rfl⟩
          have HRV := Lib.hid hr
          rw [hr] at HR HO2
          clear hr
          go_wp2_with fail
          refine (r24_Series none 0 0 n [] wc (Poly.nil _ _ _) rfl (by have := HN.out; omega) (fun x hx => by cases hx)).mono ?_
          rintro e w2 ⟨v2, rfl, hr2, hb2⟩
          have hr2 : NRow w2 wc.heap.size v2 (firstZ (cutZ r 1) n) := by
            rw [zAt_nil] at hr2
            rw [firstZ_congr (z' := fun _ => 0) (fun i _ => by
              unfold cutZ
              split
              · rw [show i = 0 by omega, ← HRV.out]; rfl
              · rfl)]
            exact hr2
          obtain ⟨A2, c2, rfl, hc2⟩ := hr2.form
          simp only [firstZ_len] at hr2 hc2 ⊢
          clear hc2
          have HB2 := Lib.hid (show ∀ g, A2 = some ⟨g, 0, none⟩ → g < w2.heap.size from fun g hg => by
            subst hg
            obtain ⟨_, cs, h⟩ := hr2.type
            exact (Array.getElem?_eq_some_iff.1 h).1)
          go_wp2_with fail
          refine (r24_Series (some ad) lp cp n xp w2 ((hpc.below hb2).more hb2.size) HLP.out (by have := HN.out; omega) (fun x hx => Nat.le_trans (HSP.out x hx) (by omega))).mono ?_
          rintro e w3 ⟨v3, rfl, hr3, hb3⟩
          obtain ⟨A3, c3, rfl, hc3⟩ := hr3.form
          simp only [firstZ_len] at hr3 hc3 ⊢
          clear hc3
          have hr2 := hr2.below hb3
          have hbw := hbc.trans (hb2.mono hbc.size)
          have hbw := hbw.trans (hb3.mono hbw.size)
          have hr2 : NRow w3 w.heap.size _ _ := hr2.since hbc.size
          have HB1 := Lib.hid (show w2.heap.size ≤ w3.heap.size from hb3.size)
          generalize w2.heap.size = B1 at hr3 HB2 HB1
          clear hb2 hb3 hc0 hc1 hp hpc
          go_wp2_with fail
          go_loopg [9] n (fun gk t9 wr => ∃ k : Nat, k + gk = n + 1 ∧ 1 ≤ k ∧ t9 = .int .i64 (k : Int) ∧ NRow wr w.heap.size (.slice A2 n c2) (firstZ (cutZ r k) n) ∧ NRow wr B1 (.slice A3 n c3) (firstZ (zAt xp) n) ∧ Below w.heap.size w wr)
          case atStart => exact ⟨1, by omega, by omega, rfl, hr2, hr3, hbw⟩
          case round =>
            clear hr2 hr3 hbw
            obtain ⟨k, hk, hk1, rfl, hout, ha, hbel⟩ := hrel
            have HK := Lib.hid (And.intro hk hk1)
            by_cases hlt : k < n
            · have hltI : (k : Int) < (n : Int) := by omega
              have HLT := Lib.hid hlt
              clear hk hlt hk1
              go_wp2_with fail
              refine (r24_within _ _ n B1 w.heap.size M (zAt xp) (cutZ r k) wr ha hout (by have := HN.out; omega) HM0.out HLC.out (fun k _ => HAM.out k) (cut_bound fun i hi => HR.out i (by have := HN.out; omega))).mono ?_
              rintro e w5 ⟨v5, rfl, hr5, hb5⟩
              obtain ⟨A5, c5, rfl, hc5⟩ := hr5.form
              simp only [firstZ_len] at hr5 hc5 ⊢
              clear hc5
              go_wp2_with fail
              refine (num_whole 0 w5 (by omega)).mono ?_
              rintro e w6 ⟨v6, rfl, hz6, hb6⟩
              obtain ⟨b6, A6, l6, c6, rfl, hdum⟩ := id hz6
              clear hdum
              go_upto_region 13 with (fail)
              have hbx : Box3 (w6.alloc (.cells #[.bool b6, .slice A6 l6 c6, .int .i64 0] 79)) w6.heap.size 79 (.bool b6) (.slice A6 l6 c6) (.int .i64 0) := heap_alloc_new w6 _
              have hb6' : Below w6.heap.size w6 (w6.alloc (.cells #[.bool b6, .slice A6 l6 c6, .int .i64 0] 79)) := (Below.refl _ _).alloc (Nat.le_refl _) _
              have hbr : Below w5.heap.size w5 (w6.alloc (.cells #[.bool b6, .slice A6 l6 c6, .int .i64 0] 79)) := hb6.trans (hb6'.mono hb6.size)
              have hzW := hz6.below hb6'
              have HB0 := Lib.hid hb6.size
              generalize w6.heap.size = B0 at hbx HB0 ⊢
              generalize w6.alloc (.cells #[.bool b6, .slice A6 l6 c6, .int .i64 0] 79) = W0 at hbx hbr hzW ⊢
              clear hz6 hb6 hb6'
              go_upto_if 54 with (fail)
              go_cut [] (fun wx => ∃ (b : Bool) (A : Option Addr) (l c : Nat), Box3 wx B0 79 (.bool b) (.slice A l c) (.int .i64 0) ∧ NumAt wx (.agg #[.bool b, .slice A l c, .int .i64 0]) (if k = 1 then 1 else 0) ∧ Below w5.heap.size w5 wx)
              case first =>
                by_cases hk1 : k = 1
                · have HK1 := Lib.hid hk1
                  have tk : ((k : Int) == 1) = true := beq_iff_eq.2 (by omega)
                  clear hk1
                  go_wp2_with fail
                  refine (num_whole 1 W0 (by omega)).mono ?_
                  rintro e w7 ⟨v7, rfl, hz7, hb7⟩
                  obtain ⟨b7, A7, l7, c7, rfl, hdum⟩ := id hz7
                  clear hdum
                  have hbx7 := hbx.below hb7 hbx.lt
                  have d0 := hbx7.cell0
                  have d1 := hbx7.cell1
                  have d2 := hbx7.cell2
                  have f0 := hbx7.free
                  go_wp2_with fail
                  go_meet
                  have hst := hbx7.store (a := .bool b7) (b := .slice A7 l7 c7) (c := .int .i64 0)
                  have hz8 := hz7.store3 (a := .bool b7) (b := .slice A7 l7 c7) (c := .int .i64 0) hbx7 (fun k h => by cases h) (fun k h => by cases h) (fun k h => by cases h)
                  have hb8 := store3_below (a := .bool b7) (b := .slice A7 l7 c7) (c := .int .i64 0) (hbr.trans (hb7.mono hbr.size)) HB0.out
                  exact ⟨b7, A7, l7, c7, hst, by rw [if_pos HK1.out]; exact hz8, hb8⟩
                · have hkI : ¬ (k : Int) = 1 := by omega
                  have HK1 := Lib.hid hk1
                  have tk : ((k : Int) == 1) = false := beq_eq_false_iff_ne.2 hkI
                  clear hk1
                  go_wp2_with fail
                  go_meet
                  exact ⟨b6, A6, l6, c6, hbx, by rw [if_neg HK1.out]; exact hzW, hbr⟩
              case rest =>
                clear hbx hbr hzW
                obtain ⟨bW, AW, lW, cW, hbx, hzW, hbr⟩ := hcut
                have hb05 : Below wr.heap.size wr wc := hb5.trans (hbr.mono hb5.size)
                have houtc := hout.below hb05
                have hac := ha.below hb05
                have hgot := hr5.below hbr
                have hbelc := hbel.trans (hb05.mono hbel.size)
                -- what is wanted
                have HREF := Lib.hid (show ((if k = 1 then (1 : Int) else 0) - sumP (zAt xp) (cutZ r k) n k) * zAt xp 1 = cutZ r (k + 1) k by
                  have h1 := HK.out.2
                  have hc0 : cutZ r k 0 = 0 := by unfold cutZ; rw [if_pos (by omega), ← HRV.out]; rfl
                  rw [sumP_all _ hc0 HLT.out, cut_at, ← HRV.out, revZ_step _ _ h1])
                obtain ⟨gg, cg, b8, u8, hv8, _, o0, o1, o2, hnumG⟩ := hgot.at_ (j := k) (by rw [firstZ_len]; exact HLT.out)
                rw [firstZ_get _ HLT.out] at hnumG
                injection hv8 with hv81 hv82 hv83
                subst hv81 hv83
                obtain ⟨ga, ca, b9, u9, hv9, _, q0, q1, q2, hnumA⟩ := hac.at_ (j := 1) (by have := HLT.out; have := HK.out.2; rw [firstZ_len]; omega)
                rw [firstZ_get _ (by have := HLT.out; have := HK.out.2; omega)] at hnumA
                injection hv9 with hv91 hv92 hv93
                subst hv91 hv93
                obtain ⟨go, co, b4, u4, hv4, _, p0, p1, p2, hnumO⟩ := houtc.at_ (j := k) (by rw [firstZ_len]; exact HLT.out)
                injection hv4 with hv41 hv42 hv43
                subst hv41 hv43
                have h1n : (1 : Int) < (n : Int) := by have := HLT.out; have := HK.out.2; omega
                have h1nN : 1 < n := by omega
                have HLG := Lib.hid (times_len3 HLC.out (Nat.le_refl n) (by have := HN.out; omega) (sumP_small (by have := HN.out; omega) HM0.out (fun j _ => HAM.out j) (cut_bound (k := k) fun i hi => HR.out i (by have := HN.out; omega)) k HLT.out n (Nat.le_refl n)))
                have HLA := Lib.hid (times_len2 (Nat.pow_pos (n := n) (Nat.mul_pos (show 0 < 4096 by omega) HM0.out)) HM0.out HLC.out (HAM.out 1))
                have HWL := Lib.hid (show (limbs (if k = 1 then (1 : Int) else 0).natAbs).length ≤ 1 by
                  split
                  · exact lc_limb (by rw [W64_eq]; decide)
                  · simp [limbs_zero])
                have x0 := later_cell hbx.cell0
                have x1 := later_cell hbx.cell1
                have x2 := later_cell hbx.cell2
                have s0 := later_cell o0
                have s1 := later_cell o1
                have s2 := later_cell o2
                have t0 := later_cell q0
                have t1 := later_cell q1
                have t2 := later_cell q2
                clear hv82 hv92 hv42 o0 o1 o2 q0 q1 q2
                go_wp2_with fail
                refine wp_region_stages (fun w' => ∃ δ : Later Nix wc, w' = δ.world) [(false, 0), (false, 1), (false, 2), (false, 3), (false, 4), (false, 5), (false, 6), (false, 8), (false, 9), (false, 10), (true, 7), (true, 11)] 12 [.reads [_, _, _, _, _, _, _, _, _, _], .loud _, .loud _] [_, _] (by kernel_rfl) (by kernel_rfl) rfl rfl ?_ ?_
                · exact ⟨⟨_, nix_drawn wc⟩, rfl⟩
                refine wpStages_reads ?_
                repeat (go_big_quiet_step (fail))
                refine wpQuiet_nil ?_
                refine wpStages_loud rfl ?_
                intro K hK
                go_big_op
                have hbd := below_drewN (Below.refl wc.heap.size wc) 1
                refine (num_less _ _ _ _ (wc.drewN 1) (hzW.below hbd) (hnumG.below hbd) (by have := HWL.out; omega) (by have := HLG.out; omega)).mono ?_
                rintro e w8 ⟨v8, rfl, hz8, hb8⟩
                have he8 : Ext Nix wc w8 := (nix_drawn wc).later (Ext.of_below hb8)
                refine hK _ _ ⟨⟨w8, he8⟩, rfl⟩ ?_
                clear hK K x0 x1 x2 s0 s1 s2 t0 t1 t2
                obtain ⟨b5, A5', l5, c5', rfl, hdum⟩ := id hz8
                clear hdum
                have HLS := Lib.hid (show (limbs ((if k = 1 then (1 : Int) else 0) - sumP (zAt xp) (cutZ r k) n k).natAbs).length ≤ 137438953472 by
                  have h1 : lc ((if k = 1 then (1 : Int) else 0) - sumP (zAt xp) (cutZ r k) n k).natAbs ≤ lc ((sumP (zAt xp) (cutZ r k) n k).natAbs + 1) := lc_mono (by split <;> omega)
                  have h2 := lc_add (sumP (zAt xp) (cutZ r k) n k).natAbs 1
                  have h3 : lc 1 ≤ 1 := lc_limb (by rw [W64_eq]; decide)
                  have h4 := HLG.out
                  unfold lc at h1 h2 h3
                  omega)
                refine wpStages_loud rfl ?_
                intro K hK
                go_big_op
                refine (num_times _ _ _ (zAt xp 1) w8 hz8 (hnumA.below he8.below) HLS.out (by have := HLA.out; omega)).mono ?_
                rintro e w9 ⟨v9, rfl, hz9, hb9⟩
                have he9 : Ext Nix wc w9 := he8.later (Ext.of_below hb9)
                refine hK _ _ ⟨⟨w9, he9⟩, rfl⟩ ?_
                clear hK K
                refine wpStages_nil ?_
                rw [HREF.out] at hz9
                obtain ⟨b9', A9', l9, c9', rfl, hdum⟩ := id hz9
                clear hdum
                have hb0 := he9.below
                have hout9 := houtc.below hb0
                have ha9 := hac.below hb0
                have d0 := (hb0.cell (World.block_lt_of_cell? wc _ p0)).trans p0
                have d1 := (hb0.cell (World.block_lt_of_cell? wc _ p1)).trans p1
                have d2 := (hb0.cell (World.block_lt_of_cell? wc _ p2)).trans p2
                have f0 := hout9.free
                have hset := hout9.set (j := k) (by rw [firstZ_len]; exact HLT.out) hz9
                rw [firstZ_set (fun m _ hm => cut_set r hm)] at hset
                have hoth := ha9.other (store3_grown w9 go (k * 3) (k * 3 + 1) (k * 3 + 2) (.bool b9') (.slice A9' l9 c9') (.int .i64 0)) (HB2.out go rfl) hout9.type.2
                have hbase := hout9.type.1
                have hbel9 := hbelc.trans (hb0.mono hbelc.size)
                have hbe9 := ((hbel9.setCell (p := ⟨go, k * 3, none⟩) hbase (.bool b9')).setCell (p := ⟨go, k * 3 + 1, none⟩) hbase (.slice A9' l9 c9')).setCell (p := ⟨go, k * 3 + 2, none⟩) hbase (.int .i64 0)
                clear p0 p1 p2
                go_wp2_with fail
                go_roundg (gk - 1)
                case measure => have := HK.out; have := HLT.out; omega
                case rel => exact ⟨k + 1, by have := HK.out; have := HLT.out; omega, by omega, by go_num, hset, hoth, hbe9⟩
            · have hltI : (n : Int) ≤ (k : Int) := by omega
              have HE := Lib.hid (show firstZ (cutZ r k) n = firstZ r n from firstZ_congr fun i hi => if_pos (by omega))
              rw [HE.out] at hout
              have HLen := Lib.hid (show ∀ k, k < n → (limbs (r k).natAbs).length ≤ 137438953472 from fun k hk => Nat.le_trans (times_len2 (Nat.pow_pos (Nat.mul_pos (by omega) HM0.out)) HM0.out HLC.out (HR.out k (by have := HN.out; omega))) (by omega))
              clear hk hlt hk1
              go_wp2_with fail
              refine (r24_told _ n w.heap.size _ wr hout (by have := HN.out; omega) HLen.out).mono ?_
              rintro e w5 ⟨v, rfl, ht, hb5⟩
              go_wp2_with fail
              go_ret2
              rw [HO2.out]
              exact ⟨v, rfl, ht.since hbel.size, hbel.trans (hb5.mono hbel.size)⟩
      · have HE2 := Lib.hid (show turnedR xp (n : Int) = ([], 340) by
          have hu : noughtAt xp 0 = false := by
            unfold noughtAt
            rw [← hlm]; exact beq_eq_false_iff_ne.2 hm
          rw [HO.out, hu, Bool.false_and]; rfl)
        have hlmI : (0 : Int) < (lm : Int) := by omega
        clear HO hl2 hlm hcm hm e0
        go_wp2_with fail
        go_ret2
        rw [HE2.out]
        exact ⟨_, rfl, Told.nil _ hbc.size, hbc⟩
  · have HE2 := Lib.hid (show turnedR xp terms = ([], E) by rw [HO.out, if_pos hE0])
    have tE : (E == 0) = false := beq_eq_false_iff_ne.2 hE0
    have tE2 : (E != 0) = true := by rw [bne, tE]; rfl
    clear HO hE0
    go_wp2_with fail
    go_ret2
    rw [HE2.out]
    exact ⟨_, rfl, Told.nil _ hbc.size, hbc⟩
end Go.Proofs.Ytmnfokapdipcdaa
