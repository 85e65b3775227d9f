import Derived.Test.YtonbhpadoplpkaaBox
import Derived.Test.YtonbhpadoplpkaaInt2
import Derived.Test.YtonbhpadoplpkaaBits
/- The package limb: told, Neg, Of, sizes, Cmp, Add, Sub. -/
namespace Go.Proofs.Ytonbhpadoplpkaa
open Go.RowKit Go.Deep
/-- What is told of a sign and a size. -/
def toldF (neg : Bool) (n : Nat) : Raw × Int := if 4096 < lc n then ((false, []), 3) else (rawOf (signed neg n), 0)
theorem rawOf_signed (neg : Bool) (n : Nat) : rawOf (signed neg n) = (neg && decide (n ≠ 0), limbs n) := by
  unfold rawOf
  rw [signed_neg, signed_natAbs]
theorem clip_limbs (A : Option Addr) (l c : Nat) (w : World) (hc : l ≤ c) :
    Calls Try.prog 62 #[.slice A l c] w fun e w' => e = .returned (.slice A l l) ∧ w = w' := by
  go_enter Try.func62, Try.ntmps62
  go_wp2_with fail
  go_ret
  exact ⟨rfl, rfl⟩
set_option maxRecDepth 100000 in
theorem limb_told (neg : Bool) (A : Option Addr) (c base : Nat) (xs : List Nat) (w : World) (h : Lim w w.heap.size A xs) (hf : Fresh w base A c) (hc : xs.length ≤ c) (hl : xs.length ≤ 1099511627776) :
    Calls Try.prog 41 #[.bool neg, .slice A xs.length c] w fun e w' => ∃ v, e = .returned (.tuple #[v, .int .i64 (toldF neg (val xs)).2]) ∧ RawAt w' base v (toldF neg (val xs)).1 ∧ Below w.heap.size w w' := by
  have HF := Lib.hid hf
  have HC := Lib.hid hc
  clear hf hc
  have HE := Lib.hid (trimL_eq h.small)
  obtain ⟨V, hV⟩ : ∃ V, val xs = V := ⟨_, rfl⟩
  rw [hV] at HE ⊢
  have HV := Lib.hid hV
  clear hV
  go_enter Try.func41, Try.ntmps41
  go_wp2_with fail
  obtain ⟨W0, r, hW, hr, br, hbw, hsz⟩ := box_new w (.bool false) (.slice none 0 0)
  have h0 : Lim W0 r A xs := (hr ▸ h).below hbw
  have HW := Lib.hid (show w.heap.size = r from hr)
  have HH := Lib.hid h
  rw [hW, hr]
  clear hW hr h
  have d0 := br.cell0
  have d1 := br.cell1
  have fr := br.free
  go_loop [1] (fun v => ∃ n : Nat, n ≤ xs.length ∧ v = .slice A n c ∧ trimL (xs.take n) = trimL xs) (fun v => match v with | .slice _ n _ => n | _ => 0)
  case atStart => exact ⟨xs.length, Nat.le_refl _, rfl, by simp⟩
  case round =>
    obtain ⟨n, hn, rfl, ht⟩ := hrel
    have HT := Lib.hid ht
    clear ht
    rcases n with _ | n
    · have HZ := Lib.hid (show toldF neg V = ((false, []), 0) by
        have h1 := HE.out
        rw [← HT.out] at h1
        have h2 : V = 0 := limbs_eq_nil.1 (by rw [← h1]; rfl)
        subst h2
        unfold toldF
        rw [if_neg (by rw [lc_zero]; omega), rawOf_signed, limbs_zero]
        simp)
      go_wp2_with fail
      refine bodyPost_ret (v := .tuple #[.agg #[.bool false, (.slice none 0 0)], (.int .i64 0)]) (by
        rw [results_cell_tmp rfl]
        have hld := run_loadVar_row (P := Try.prog) _ r 24 24 #[.bool false, (.slice none 0 0)] (0, 0) _ br.store Try.underlying24 rfl (by kernel_rfl)
        simp [asAddr, Result.andThen, hld]) rfl ?_
      rw [HZ.out]
      exact ⟨_, rfl, RawAt.zero _ _, by rw [HW.out]; exact store2_below hbw (Nat.le_refl _)⟩
    · obtain ⟨ad, hAd, hb, hcell⟩ := h0.at_ (k := n) (by omega)
      subst hAd
      obtain ⟨x, hx⟩ : ∃ x, xs.getD n 0 = x := ⟨_, rfl⟩
      rw [hx] at hcell
      have HX := Lib.hid hx
      clear hx
      have hnc : ((n + 1 : Nat) : Int) - 1 = (n : Int) := by omega
      have hb0 : (0 : Int) < ((n + 1 : Nat) : Int) := by omega
      have hb1 : (n : Int) < ((n + 1 : Nat) : Int) := by omega
      have hb2 : (n : Int) ≤ ((n + 1 : Nat) : Int) := by omega
      have hncc : n ≤ c := by have := HC.out; omega
      by_cases hx0 : x = 0
      · have t0 : ((x : Int) == 0) = true := by simp [hx0]
        have HS := Lib.hid (show trimL (xs.take n) = trimL xs by rw [← HT.out, trimL_zero xs n (by omega) (by have := HX.out; omega)])
        clear hx0
        go_wp2_with fail
        exact ⟨⟨n, by omega, rfl, HS.out⟩, by simp⟩
      · have t0 : ((x : Int) == 0) = false := beq_eq_false_iff_ne.2 (by omega)
        have HL := Lib.hid (show xs.take (n + 1) = limbs V by rw [← HE.out, ← HT.out, trimL_pos xs n (by omega) (by have := HX.out; omega)])
        have HLN := Lib.hid (show lc V = n + 1 by
          unfold lc
          rw [← HL.out, List.length_take]; omega)
        have HN1 := Lib.hid (show n + 1 ≤ xs.length from hn)
        clear hx0
        by_cases hlong : n + 1 ≤ 4096
        · have hlI : ((n + 1 : Nat) : Int) ≤ 4096 := by omega
          have hz : (((n + 1 : Nat) : Int) == 0) = false := beq_eq_false_iff_ne.2 (by omega)
          have HZ := Lib.hid (show toldF neg V = ((neg, limbs V), 0) by
            unfold toldF
            rw [if_neg (by rw [HLN.out]; omega), rawOf_signed]
            have h0 : V ≠ 0 := fun e => by
              have := HLN.out
              rw [e, lc_zero] at this
              omega
            rw [decide_eq_true h0, Bool.and_true])
          clear hlong
          go_wp2_with fail
          refine (clip_limbs _ _ _ _ (by have := HC.out; omega)).mono ?_
          rintro e w1 ⟨rfl, rfl⟩
          go_wp2_with fail
          refine bodyPost_ret (v := .tuple #[.agg #[.bool neg, (.slice (some ad) (n + 1) (n + 1))], (.int .i64 0)]) (by
            rw [results_cell_tmp rfl]
            have hld := run_loadVar_row (P := Try.prog) _ r 24 24 #[.bool neg, (.slice (some ad) (n + 1) (n + 1))] (0, 0) _ br.store Try.underlying24 rfl (by kernel_rfl)
            simp [asAddr, Result.andThen, hld]) rfl ?_
          rw [HZ.out]
          have hlim := HH.out.take (n + 1)
          rw [HL.out] at hlim
          exact ⟨_, rfl, RawAt.of (x := (neg, limbs V)) hlim (HF.out.cut (by have := HC.out; have := HN1.out; omega)) (by rw [← HLN.out]; rfl) (Nat.le_refl _) (by rw [HW.out]; exact store2_below hbw (Nat.le_refl _)), by rw [HW.out]; exact store2_below hbw (Nat.le_refl _)⟩
        · have hlI : (4096 : Int) < ((n + 1 : Nat) : Int) := by omega
          have HZ := Lib.hid (show toldF neg V = ((false, []), 3) by
            unfold toldF
            rw [if_pos (by rw [HLN.out]; omega)])
          clear hlong
          go_wp2_with fail
          refine bodyPost_ret (v := .tuple #[.agg #[.bool false, (.slice none 0 0)], (.int .i64 3)]) (by
            rw [results_cell_tmp rfl]
            have hld := run_loadVar_row (P := Try.prog) _ r 24 24 #[.bool false, (.slice none 0 0)] (0, 0) _ br.store Try.underlying24 rfl (by kernel_rfl)
            simp [asAddr, Result.andThen, hld]) rfl ?_
          rw [HZ.out]
          exact ⟨_, rfl, RawAt.zero _ _, by rw [HW.out]; exact store2_below hbw (Nat.le_refl _)⟩
theorem told_right {neg : Bool} {n : Nat} (h : lc n ≤ 4096) : toldF neg n = (rawOf (signed neg n), 0) := by
  unfold toldF
  rw [if_neg (by omega)]
set_option maxRecDepth 100000 in
theorem limb_Neg (v : Value) (z : Int) (w : World) (h : IntV w v z) (hl : lc z.natAbs ≤ 4096) :
    Calls Try.prog 20 #[v] w fun e w' => ∃ v', e = .returned (.tuple #[v', .int .i64 0]) ∧ RawAt w' w.heap.size v' (rawOf (-z)) ∧ Below w.heap.size w w' := by
  obtain ⟨A, l, c, rfl, hll, hc, hlim⟩ := h
  have HR := Lib.hid (right_of hl)
  have HLL := Lib.hid hll
  have HC := Lib.hid hc
  have HL := Lib.hid hl
  have HLIM := Lib.hid hlim
  have hlI : (l : Int) ≤ 4096 := by unfold lc at hl; omega
  clear hll hc hl
  obtain ⟨s, hs⟩ : ∃ s, decide (z < 0) = s := ⟨_, rfl⟩
  have HS := Lib.hid hs
  rw [hs]
  clear hs
  go_enter Try.func20, Try.ntmps20
  go_wp2_with fail
  obtain ⟨W0, g, r, hW, hg, hr, hgr, bx, br, hbw, hsz⟩ := box_two w (.bool s) (.slice A l c) (.bool false) (.slice none 0 0)
  have HW := Lib.hid (show w.heap.size = g from hg)
  rw [hW, hr, hg]
  have h0 := (hg ▸ hlim : Lim w g A (limbs z.natAbs)).below hbw
  clear hW hr hg hlim
  refine (limb_right s A l c (limbs z.natAbs) W0 (by omega) h0 HLL.out).mono ?_
  rintro e w1 ⟨rfl, hb1⟩
  rw [← HS.out, HR.out, HS.out]
  have bx1 := bx.below hb1 bx.lt
  have br1 := br.below hb1 br.lt
  have hbw1 : Below g w w1 := below_then hbw (by omega) hb1
  have hbw1' : Below g W0 w1 := hb1.mono (by omega)
  have hlim1 := (h0.below hbw1').more (show g ≤ w1.heap.size by have := hb1.size; omega)
  have r0 := later_cell bx1.cell0
  have r1 := later_cell bx1.cell1
  have HLIM1 := Lib.hid hlim1
  have BR1 := Lib.hid br1
  have HBW1 := Lib.hid hbw1
  clear h0 hlim1 br br1 bx bx1 hb1 hbw hbw1
  go_wp2_with fail
  refine wp_region_stages (fun w' => ∃ δ : Later Nix w1, w' = δ.world) [(false, 0), (false, 1), (false, 2), (false, 3), (false, 4), (true, 5), (true, 6), (false, 7), (false, 8)] 9 [.reads [_, _, _, _, _], .loud _, .loud _, .reads [_, _]] [_, _] (by kernel_rfl) (by kernel_rfl) rfl rfl ?_ ?_
  · exact ⟨⟨_, nix_drawn w1⟩, rfl⟩
  refine wpStages_reads ?_
  repeat (go_big_quiet_step (fail))
  refine wpQuiet_nil ?_
  refine wpStages_loud rfl ?_
  intro K hK
  go_big_op
  rw [HLL.out]
  refine (clone_own A c (limbs z.natAbs) (w1.drewN 1) (Nat.le_refl _) (HLIM1.out.drewN 1) (by rw [← HLL.out]; exact HC.out) (by have := HL.out; unfold lc at this; omega)).mono ?_
  rintro e w2 ⟨A', c', rfl, hc', hlim', hfr, hb⟩
  have he : Ext Nix w1 w2 := (nix_drawn w1).later (Ext.of_below hb)
  refine hK _ _ ⟨⟨w2, he⟩, rfl⟩ ?_
  clear hK K
  refine wpStages_loud rfl ?_
  intro K hK
  go_big_op
  refine (limb_told (!s) A' c' _ (limbs z.natAbs) w2 hlim' hfr hc' (by have := HL.out; unfold lc at this; omega)).mono ?_
  rintro e w3 ⟨v, rfl, hv, hb3⟩
  have he3 : Ext Nix w1 w3 := he.later (Ext.of_below hb3)
  refine hK _ _ ⟨⟨w3, he3⟩, rfl⟩ ?_
  clear hK K
  rw [val_limbs, told_right HL.out] at hv ⊢
  obtain ⟨b3, A3, l3, c3, rfl, HV⟩ := hv.open
  clear hv
  refine wpStages_reads ?_
  repeat (go_big_quiet_step (fail))
  refine wpQuiet_nil ?_
  refine wpStages_nil ?_
  have hb13 : Below w1.heap.size w1 w3 := Ext.below (he3.mono (fun _ _ h => h) (fun _ h => h.elim))
  have br3 := BR1.out.below hb13 BR1.out.lt
  have d0 := br3.cell0
  have d1 := br3.cell1
  have fr := br3.free
  go_wp2_with fail
  refine bodyPost_ret (v := .tuple #[.agg #[.bool b3, (.slice A3 l3 c3)], (.int .i64 0)]) (by
    rw [results_cell_tmp rfl]
    have hld := run_loadVar_row (P := Try.prog) _ r 24 24 #[.bool b3, (.slice A3 l3 c3)] (0, 0) _ br3.store Try.underlying24 rfl (by kernel_rfl)
    simp [asAddr, Result.andThen, hld]) rfl ?_
  have HSG := signed_not z
  rw [HS.out] at HSG
  have hbF : Below g w w3 := below_then HBW1.out (by have := HW.out; have := HBW1.out.size; omega) hb13
  have hbl := BR1.out.lt
  have hv := HV.out.ext (ext_store2 (a := .bool b3) (b := .slice A3 l3 c3) br3.nums) (fun i hi => by subst hi; exact hbl)
  rw [HSG] at hv
  exact ⟨_, rfl, hv.since (by have := HW.out; have h : (w1.drewN 1).heap.size = w1.heap.size := rfl; omega), by rw [HW.out]; exact store2_below hbF (by omega)⟩
set_option maxRecDepth 100000 in
theorem limb_sizes (A1 A2 : Option Addr) (l1 l2 c1 c2 m n : Nat) (w : World) {B : Nat} (h1 : Lim w B A1 (limbs m)) (h2 : Lim w B A2 (limbs n)) (e1 : l1 = (limbs m).length) (e2 : l2 = (limbs n).length) (hl : l1 ≤ 35184372088832) (hl2 : l2 ≤ 35184372088832) :
    Calls Try.prog 45 #[.slice A1 l1 c1, .slice A2 l2 c2] w fun e w' => ∃ r : Int, e = .returned (.int .i64 r) ∧ ((r < 0 ↔ m < n) ∧ (0 < r ↔ n < m)) ∧ ∃ q, w' = w.drewN q := by
  have hm : val (limbs m) = m := val_limbs m
  have hn : val (limbs n) = n := val_limbs n
  have hlc1 : lc m = (limbs m).length := rfl
  have hlc2 : lc n = (limbs n).length := rfl
  generalize limbs m = xs at *
  generalize limbs n = ys at *
  by_cases heq : l1 = l2
  · subst heq
    have t0 : ((l1 : Int) != (l1 : Int)) = false := by simp
    have HM := Lib.hid hm
    have HN := Lib.hid hn
    have HE1 := Lib.hid e1
    have HE2 := Lib.hid e2
    clear hm hn hlc1 hlc2 e1 e2
    go_enter Try.func45, Try.ntmps45
    go_wp2_with fail
    go_loopw [20] (fun i wr => ∃ k j : Nat, k + j = l1 ∧ i = .int .i64 (j : Int) ∧ xs.drop k = ys.drop k ∧ ∃ q, wr = w.drewN q) (fun i _ => l1 - (intOf i).toNat)
    case atStart => exact ⟨l1, 0, by omega, rfl, by rw [List.drop_of_length_le (by rw [HE1.out]; omega), List.drop_of_length_le (by rw [HE2.out]; omega)], 0, rfl⟩
    case round =>
      obtain ⟨k, j, hkj, rfl, hd, q, rfl⟩ := hrel
      have HD := Lib.hid hd
      clear hd
      rcases k with _ | k
      · have hj : ¬ ((j : Int) < (l1 : Int)) := by omega
        go_wp2_with fail
        go_ret
        have e : xs = ys := by simpa using HD.out
        have e2 : m = n := by rw [← HM.out, ← HN.out, e]
        exact ⟨0, rfl, by omega, q, rfl⟩
      · obtain ⟨ad, rfl, hb, hcell⟩ := h1.at_ (k := k) (by rw [← HE1.out]; omega)
        obtain ⟨ad2, rfl, hb2, hcell2⟩ := h2.at_ (k := k) (by rw [← HE2.out]; omega)
        obtain ⟨x, hx⟩ : ∃ x, xs.getD k 0 = x := ⟨_, rfl⟩
        obtain ⟨y, hy⟩ : ∃ y, ys.getD k 0 = y := ⟨_, rfl⟩
        rw [hx] at hcell
        rw [hy] at hcell2
        have HX := Lib.hid hx
        have HY := Lib.hid hy
        clear hx hy
        have e3 : (l1 : Int) - 1 - (j : Int) = (k : Int) := by omega
        have b0 : (0 : Int) ≤ (k : Int) := by omega
        have b1 : (k : Int) < (l1 : Int) := by omega
        have b2 : (j : Int) < (l1 : Int) := by omega
        have hkl : k < l1 := by omega
        rcases Nat.lt_trichotomy x y with hxy | hxy | hxy
        · have HE := Lib.hid (show m < n by rw [← HM.out, ← HN.out]; exact val_lt_top h1.small h2.small (by rw [← HE1.out, ← HE2.out]) (by rw [← HE1.out]; omega) HD.out (by rw [HX.out, HY.out]; exact hxy))
          go_wp2_with fail
          go_quiet (fail)
          go_wp2_with fail
          go_ret
          have := HE.out
          exact ⟨-1, rfl, by omega, _, rfl⟩
        · subst hxy
          have HDS := Lib.hid (drop_same (xs := xs) (ys := ys) (by rw [← HE1.out, ← HE2.out]) (by rw [← HE1.out]; omega) HD.out (by rw [HX.out, HY.out]))
          go_wp2_with fail
          go_quiet (fail)
          go_wp2_with fail
          exact ⟨⟨k, j + 1, by omega, by go_num, HDS.out, _, rfl⟩, by simp [intOf]; omega⟩
        · have HE := Lib.hid (show n < m by rw [← HM.out, ← HN.out]; exact val_lt_top h2.small h1.small (by rw [← HE1.out, ← HE2.out]) (by rw [← HE2.out]; omega) HD.out.symm (by rw [HX.out, HY.out]; exact hxy))
          go_wp2_with fail
          go_quiet (fail)
          go_wp2_with fail
          go_ret
          have := HE.out
          exact ⟨1, rfl, by omega, _, rfl⟩
  · have t0 : ((l1 : Int) != (l2 : Int)) = true := by rw [bne_iff_ne]; omega
    have HQ := Lib.hid (show ((l1 : Int) - (l2 : Int) < 0 ↔ m < n) ∧ (0 < (l1 : Int) - (l2 : Int) ↔ n < m) by
      rcases Nat.lt_trichotomy l1 l2 with h | h | h
      · have := lc_lt (show lc m < lc n by omega)
        omega
      · omega
      · have := lc_lt (show lc n < lc m by omega)
        omega)
    clear hm hn hlc1 hlc2 e1 e2 heq
    go_enter Try.func45, Try.ntmps45
    go_wp2_with fail
    go_ret
    exact ⟨_, rfl, HQ.out, 0, rfl⟩
end Go.Proofs.Ytonbhpadoplpkaa
/- The package limb, on: Cmp, Add, Sub, Of. -/
namespace Go.Proofs.Ytonbhpadoplpkaa
open Go.RowKit Go.Deep
theorem cmpZ_case (x y : Int) (r : Int) (h : (r < 0 ↔ x.natAbs < y.natAbs) ∧ (0 < r ↔ y.natAbs < x.natAbs)) :
    cmpZ x y = if (decide (x < 0) != decide (y < 0) && decide (x < 0) || decide (x < 0) == decide (y < 0) && decide (x < 0) && decide (0 < r) || decide (x < 0) == decide (y < 0) && !decide (x < 0) && decide (r < 0)) then -1 else if decide (x < 0) == decide (y < 0) && r == 0 then 0 else 1 := by
  unfold cmpZ
  by_cases h1 : x < 0 <;> by_cases h2 : y < 0 <;> simp [h1, h2] <;> grind
set_option maxRecDepth 100000 in
theorem limb_Cmp (u v : Value) (x y : Int) (w : World) (hx : IntV w u x) (hy : IntV w v y) (lx : lc x.natAbs ≤ 4096) (ly : lc y.natAbs ≤ 4096) :
    Calls Try.prog 39 #[u, v] w fun e w' => e = .returned (.tuple #[.int .i64 (cmpZ x y), .int .i64 0]) ∧ Below w.heap.size w w' := by
  obtain ⟨A1, l1, c1, rfl, hl1, hc1, hlim1⟩ := hx
  obtain ⟨A2, l2, c2, rfl, hl2, hc2, hlim2⟩ := hy
  have HR1 := Lib.hid (right_of lx)
  have HR2 := Lib.hid (right_of ly)
  have HL1 := Lib.hid hl1
  have HL2 := Lib.hid hl2
  have hI1 : (l1 : Int) ≤ 4096 := by unfold lc at lx; omega
  have hI2 : (l2 : Int) ≤ 4096 := by unfold lc at ly; omega
  have HX := Lib.hid lx
  have HY := Lib.hid ly
  clear hl1 hl2 lx ly
  obtain ⟨s1, hs1⟩ : ∃ s, decide (x < 0) = s := ⟨_, rfl⟩
  obtain ⟨s2, hs2⟩ : ∃ s, decide (y < 0) = s := ⟨_, rfl⟩
  have HS1 := Lib.hid hs1
  have HS2 := Lib.hid hs2
  rw [hs1, hs2]
  clear hs1 hs2
  go_enter Try.func39, Try.ntmps39
  go_wp2_with fail
  obtain ⟨W0, g, h, hW, hg, hr, hgr, bx, by_, hbw, hsz⟩ := box_two w (.bool s1) (.slice A1 l1 c1) (.bool s2) (.slice A2 l2 c2)
  have HW := Lib.hid (show w.heap.size = g from hg)
  rw [hW, hr, hg]
  have k1 := ((hg ▸ hlim1 : Lim w g A1 (limbs x.natAbs)).below hbw)
  have k2 := ((hg ▸ hlim2 : Lim w g A2 (limbs y.natAbs)).below hbw)
  clear hW hr hg hlim1 hlim2
  refine (limb_right s1 A1 l1 c1 (limbs x.natAbs) W0 (by omega) k1 HL1.out).mono ?_
  rintro e w1 ⟨rfl, hb1⟩
  rw [← HS1.out, HR1.out, HS1.out]
  have hb1 : Below g W0 w1 := hb1.mono (by omega)
  have hbw1 := hbw.trans hb1
  have k1 := k1.below hb1
  have k2 := k2.below hb1
  have bx := bx.below (B := W0.heap.size) (by assumption) bx.lt
  have by_ := by_.below (B := W0.heap.size) (by assumption) by_.lt
  have a0 := bx.cell0
  have a1 := bx.cell1
  have b0 := by_.cell0
  have b1 := by_.cell1
  go_wp2_with fail
  refine (limb_right s2 A2 l2 c2 (limbs y.natAbs) w1 (by have := hb1.size; omega) k2 HL2.out).mono ?_
  rintro e w2 ⟨rfl, hb2⟩
  rw [← HS2.out, HR2.out, HS2.out]
  have bx := bx.below hb2 bx.lt
  have by_ := by_.below hb2 by_.lt
  have hbw2 := hbw1.trans (hb2.mono (by have := hb1.size; omega))
  have k1 := k1.below (hb2.mono (by have := hb1.size; omega))
  have k2 := k2.below (hb2.mono (by have := hb1.size; omega))
  have a0 := bx.cell0
  have a1 := bx.cell1
  have b0 := by_.cell0
  have b1 := by_.cell1
  go_wp2_with fail
  refine (limb_sizes A1 A2 l1 l2 c1 c2 x.natAbs y.natAbs w2 k1 k2 HL1.out HL2.out (by omega) (by omega)).mono ?_
  rintro e w3 ⟨q, rfl, hq, n, rfl⟩
  have HC := Lib.hid (cmpZ_case x y q hq)
  rw [HS1.out, HS2.out] at HC
  have hF : Below w.heap.size w (w2.drewN n) := by rw [HW.out]; exact below_drewN hbw2 n
  have HF := Lib.hid hF
  have a0 : (w2.drewN n).cell? ⟨g, 0, none⟩ = some (.bool s1) := a0
  have b0 : (w2.drewN n).cell? ⟨h, 0, none⟩ = some (.bool s2) := b0
  clear hF hbw2 k1 k2 hbw1 hb1 hb2
  rcases Int.lt_trichotomy q 0 with hq0 | hq0 | hq0
  · have HQ := Lib.hid hq0
    have q1 : ¬ (0 < q) := by omega
    have q2 : (q == 0) = false := beq_eq_false_iff_ne.2 (by omega)
    clear hq
    cases s1 <;> cases s2
    all_goals
      have HZ := Lib.hid (HC.out.trans (by simp [HQ.out, q1, q2]; rfl) : cmpZ x y = _)
      go_wp2_with fail
      go_ret2
      rw [HZ.out]
      exact ⟨rfl, HF.out⟩
  · subst hq0
    clear hq
    cases s1 <;> cases s2
    all_goals
      have HZ := Lib.hid (HC.out.trans (by simp; rfl) : cmpZ x y = _)
      go_wp2_with fail
      go_ret2
      rw [HZ.out]
      exact ⟨rfl, HF.out⟩
  · have HQ := Lib.hid hq0
    have q1 : ¬ (q < 0) := by omega
    have q2 : (q == 0) = false := beq_eq_false_iff_ne.2 (by omega)
    clear hq
    cases s1 <;> cases s2
    all_goals
      have HZ := Lib.hid (HC.out.trans (by simp [HQ.out, q1, q2]; rfl) : cmpZ x y = _)
      go_wp2_with fail
      go_ret2
      rw [HZ.out]
      exact ⟨rfl, HF.out⟩
set_option maxRecDepth 100000 in
theorem limb_behind1 (i h l c : Nat) (A : Option Addr) (xs : List Nat) (w : World) {B : Nat} (hb : w.cell? ⟨h, 0, none⟩ = some (.slice A l c)) (h1 : Lim w B A xs) (hl : l = xs.length) (_hlI : (l : Int) ≤ 4096) :
    Calls Try.prog 66 #[.int .i64 (i : Int), .pointer (some ⟨h, 0, none⟩)] w fun e w' => e = .returned (.int .u64 ((xs.getD i 0 : Nat) : Int)) ∧ w = w' := by
  by_cases hi : i < l
  · obtain ⟨ad, rfl, _, hcell⟩ := h1.at_ (k := i) (by omega)
    obtain ⟨x, hx⟩ : ∃ x, xs.getD i 0 = x := ⟨_, rfl⟩
    rw [hx] at hcell ⊢
    have hI : (i : Int) < (l : Int) := by omega
    clear hx hl
    go_enter Try.func66, Try.ntmps66
    go_wp2_with fail
    go_ret
    exact ⟨rfl, rfl⟩
  · have hI : ¬ ((i : Int) < (l : Int)) := by omega
    rw [show xs.getD i 0 = 0 by simp [show xs.length ≤ i by omega]]
    clear hl hi
    go_enter Try.func66, Try.ntmps66
    go_wp2_with fail
    go_ret
    exact ⟨rfl, rfl⟩
set_option maxRecDepth 100000 in
theorem limb_behind (A : Option Addr) (l c : Nat) (w : World) : Calls Try.prog 46 #[.slice A l c] w fun e w' => e = .returned (.func (.func 66) #[] #[.pointer (some ⟨w.heap.size, 0, none⟩)]) ∧ w' = w.alloc (.cells #[.slice A l c] 22) := by
  go_enter Try.func46, Try.ntmps46
  go_wp2_with fail
  go_ret
  exact ⟨rfl, rfl⟩
end Go.Proofs.Ytonbhpadoplpkaa
