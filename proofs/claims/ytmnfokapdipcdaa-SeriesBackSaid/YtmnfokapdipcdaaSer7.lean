import Derived.Test.YtmnfokapdipcdaaSer6
/- The package series: Within, Turned. -/
namespace Go.Proofs.Ytmnfokapdipcdaa
open Go.RowKit Go.Deep
theorem Ints.down {w : World} {base base' G : Nat} {gs : List Nat} {n : Nat} {z : Nat → Int} (h : Ints w base G gs n z) (hb : base' ≤ base) : Ints w base' G gs n z :=
  ⟨h.row, h.len, h.nodup, ⟨Nat.le_trans hb h.low.1, fun g hg => ⟨Nat.le_trans hb (h.low.2 g hg).1, (h.low.2 g hg).2⟩⟩, h.at_⟩
/-- What series.Within tells. -/
def withinR (xp xq : List Raw) (terms : Int) : List Raw × Int :=
  if mayE terms [xp, xq] ≠ 0 then ([], mayE terms [xp, xq]) else if noughtAt xq 0 then toldZ (hornZ (zAt xp) (zAt xq) (min xp.length terms.toNat) (min xp.length terms.toNat)) terms.toNat else ([], 340)
theorem lc_pow_le {k b L : Nat} (h : b * k < 64 * L) {X : Nat} (hX : X ≤ 2 ^ b) : lc (X ^ k) ≤ L := by
  rw [lc_le, W64_two, ← Nat.pow_mul]
  refine Nat.lt_of_le_of_lt (Nat.pow_le_pow_left hX k) ?_
  rw [← Nat.pow_mul]
  exact Nat.pow_lt_pow_right (by omega) h
theorem big_two (k : Nat) : 8192 * W64 ^ k = 2 ^ (13 + 64 * k) := by rw [W64_two, ← Nat.pow_mul, show (8192 : Nat) = 2 ^ 13 from rfl, ← Nat.pow_add]
theorem horn_lc {n k t : Nat} (hn : n ≤ 4096) (hk : k < n) (ht : t = 4096) : lc (4096 * ((8192 * W64 ^ t) ^ k * W64 ^ t)) ≤ 137438953472 := by
  have h1 : 4096 * ((8192 * W64 ^ t) ^ k * W64 ^ t) ≤ (8192 * W64 ^ t) ^ (k + 1) := by
    rw [Nat.pow_succ]
    generalize (8192 * W64 ^ t) ^ k = P
    generalize W64 ^ t = Q
    have : P * (8192 * Q) = 8192 * (P * Q) := by grind
    omega
  refine Nat.le_trans (lc_mono h1) (lc_pow_le (b := 13 + 64 * t) ?_ (Nat.le_of_eq (big_two t)))
  subst ht
  have : (13 + 64 * 4096) * (k + 1) ≤ (13 + 64 * 4096) * 4096 := Nat.mul_le_mul_left _ (by omega)
  omega
theorem horn_pos (t k : Nat) : 0 < (8192 * W64 ^ t) ^ k := Nat.pow_pos (Nat.mul_pos (by omega) (Nat.pow_pos W64_pos))
theorem horn_len {a b : Nat → Int} {n K t : Nat} (ht : t = 4096) (hn : n ≤ 4096) (hK : K ≤ n) (ha : ∀ k, (a k).natAbs ≤ W64 ^ t) (hb : ∀ k, (b k).natAbs ≤ W64 ^ t) (k : Nat) (hk : k < n) : (limbs (hornZ a b K (K - 0) k).natAbs).length ≤ 549755813888 := by
  have h1 := hornZ_small (K := K) hn (Nat.pow_pos W64_pos) ha hb (K - 0) k hk
  refine Nat.le_trans (lc_mono h1) (lc_pow_le (b := 13 + 64 * t) ?_ (Nat.le_of_eq (big_two t)))
  subst ht
  have h3 : (13 + 64 * 4096) * (K - 0) ≤ (13 + 64 * 4096) * 4096 := Nat.mul_le_mul_left _ (by omega)
  omega
set_option maxRecDepth 100000 in
theorem series_Within (Ap Aq : Option Addr) (lp cp lq cq : Nat) (xp xq : List Raw) (terms : Int) (w : World) (hp : Poly w w.heap.size Ap xp) (hq : Poly w w.heap.size Aq xq) (hlp : lp = xp.length) (hlq : lq = xq.length) (hcp : lp ≤ cp) (hcq : lq ≤ cq) :
    Calls Try.prog 23 #[.slice Ap lp cp, .slice Aq lq cq, .int .i64 terms] w fun e w' => ∃ v, e = .returned (.tuple #[v, .int .i64 (withinR xp xq terms).2]) ∧ Told w' w.heap.size v (withinR xp xq terms).1 ∧ Below w.heap.size w w' := by
  have HLP := Lib.hid hlp
  have HLQ := Lib.hid hlq
  have HCP := Lib.hid hcp
  have HCQ := Lib.hid hcq
  obtain ⟨E, hE⟩ : ∃ E, mayE terms [xp, xq] = E := ⟨_, rfl⟩
  have HM := Lib.hid hE
  obtain ⟨un, hun⟩ : ∃ un, noughtAt xq 0 = un := ⟨_, rfl⟩
  have HU := Lib.hid hun
  have HO := Lib.hid (show withinR xp xq terms = if E ≠ 0 then ([], E) else if un then toldZ (hornZ (zAt xp) (zAt xq) (min lp terms.toNat) (min lp terms.toNat)) terms.toNat else ([], 340) by rw [withinR, hE, hun, hlp])
  clear hlp hlq hcp hcq hE hun
  go_enter Try.func23, Try.ntmps23
  go_wp2_with fail
  have hps := Polys.two hp hq HLP.out HLQ.out HCP.out HCQ.out 22
  refine (series_may terms _ 2 2 [xp, xq] _ (by simpa using hps) rfl (by omega)).mono ?_
  rintro e w1 ⟨rfl, hb1⟩
  have hb1' : Below w.heap.size w w1 := ((Below.refl _ w).alloc (Nat.le_refl _) _).trans (hb1.mono (by simp))
  rw [HM.out]
  by_cases hE0 : E = 0
  · subst hE0
    obtain ⟨h0, h4, hr⟩ := mayE_zero HM.out
    obtain ⟨n, rfl⟩ : ∃ n : Nat, terms = (n : Int) := ⟨terms.toNat, by omega⟩
    have hp1 := (hp.below hb1').more hb1'.size
    have hq1 := (hq.below hb1').more hb1'.size
    have HSP := Lib.hid (right_len (hr xp (by simp))).2
    have HLE := Lib.hid (right_len (hr xp (by simp))).1
    have HSQ := Lib.hid (right_len (hr xq (by simp))).2
    clear hr
    go_wp2_with fail
    refine (series_nought 0 Aq lq cq xq w1 hq1 HLQ.out).mono ?_
    rintro e w2 ⟨rfl, rfl⟩
    rw [HU.out]
    cases un with
    | false =>
      have HE := Lib.hid (show withinR xp xq (n : Int) = ([], 340) by rw [HO.out]; rfl)
      clear HO
      go_wp2_with fail
      go_ret2
      rw [HE.out]
      exact ⟨_, rfl, Told.nil _ hb1'.size, hb1'⟩
    | true =>
      obtain ⟨K, hK⟩ : ∃ K, min lp n = K := ⟨_, rfl⟩
      have HO2 := Lib.hid (show withinR xp xq (n : Int) = toldZ (hornZ (zAt xp) (zAt xq) K K) n by rw [HO.out, Int.toNat_natCast, hK]; rfl)
      clear HO
      have HN := Lib.hid (show n ≤ 4096 by omega)
      go_wp2_with fail
      refine (series_value Ap lp cp n xp w1 hp1 HLP.out HN.out HSP.out).mono ?_
      rintro e w2 ⟨gs2, rfl, hl2, hI2, hb2⟩
      have HL2 := Lib.hid hl2
      clear hl2
      go_wp2_with fail
      refine (series_value Aq lq cq n xq w2 ((hq1.below hb2).more hb2.size) HLQ.out HN.out HSQ.out).mono ?_
      rintro e w3 ⟨gs3, rfl, hl3, hI3, hb3⟩
      have HL3 := Lib.hid hl3
      clear hl3
      have HA := Lib.hid (zAt_small HSP.out hp.small)
      have HB := Lib.hid (zAt_small HSQ.out hq.small)
      go_wp2_with fail
      refine (series_value none 0 0 n [] w3 (Poly.nil _ _ _) rfl HN.out (by simp)).mono ?_
      rintro e w4 ⟨gs4, rfl, hl4, hI4, hb4⟩
      have HL4 := Lib.hid hl4
      clear hl4
      have hsz3 : w.heap.size ≤ w3.heap.size := Nat.le_trans (Nat.le_trans hb1'.size hb2.size) hb3.size
      have hbel : Below w.heap.size w w4 := (((hb1'.trans (hb2.mono hb1'.size)).trans (hb3.mono (Nat.le_trans hb1'.size hb2.size)))).trans (hb4.mono hsz3)
      have hI2' := (hI2.below hb3).below hb4
      have hI3' := hI3.below hb4
      have hI4' := hI4.down hsz3
      have hnI : (n : Int) ≤ 4096 := by omega
      have hlI : (lp : Int) ≤ 4096 := by have := HLP.out; have := HLE.out; omega
      have hKn : (K : Int) ≤ (n : Int) := by omega
      have hmin : min (lp : Int) (n : Int) = (K : Int) := by omega
      generalize w3.heap.size = G4 at *
      go_wp2_with fail
      generalize w2.heap.size = Gq at *
      generalize w1.heap.size = Gp at *
      have HKK := Lib.hid (show K ≤ n by omega)
      go_loopg [11, 12] K (fun gk t11 t12 wr => ∃ (gs : List Nat) (G : Nat), gk ≤ K ∧ t12 = .int .i64 ((gk : Int) - 1) ∧ t11 = .slice (some ⟨G, 0, none⟩) n n ∧ gs.length = n ∧ Ints wr w.heap.size G gs n (hornZ (zAt xp) (zAt xq) K (K - gk)) ∧ Below w4.heap.size w4 wr)
      case atStart => exact ⟨gs4, G4, Nat.le_refl _, rfl, rfl, HL4.out, hI4'.congr (fun j _ => by rw [Nat.sub_self]; unfold zAt; simp [hornZ, signed]), Below.refl _ _⟩
      case round =>
        obtain ⟨gs, G, hgk, rfl, rfl, hgs, hints, hbr⟩ := hrel
        have HGS := Lib.hid hgs
        clear hgs
        by_cases h0k : gk = 0
        · subst h0k
          have hneg : ¬ (0 : Int) ≤ ((0 : Nat) : Int) - 1 := by omega
          have hbw : Below w.heap.size w wr := hbel.trans (hbr.mono hbel.size)
          have HLen := Lib.hid (show ∀ k, k < n → (limbs (hornZ (zAt xp) (zAt xq) K (K - 0) k).natAbs).length ≤ 549755813888 from fun k hk => by
            exact horn_len (t := 4096) rfl HN.out HKK.out HA.out HB.out k hk)
          go_wp2_with fail
          refine (series_told G n _ gs _ wr hints HGS.out HN.out HLen.out).mono ?_
          rintro e w5 ⟨v, rfl, ht, hb5⟩
          go_wp2_with fail
          go_ret2
          rw [HO2.out]
          exact ⟨v, rfl, ht.since hbw.size, hbw.trans (hb5.mono hbw.size)⟩
        · obtain ⟨q, rfl⟩ : ∃ q, gk = q + 1 := ⟨gk - 1, by omega⟩
          have hqI : ((q + 1 : Nat) : Int) - 1 = (q : Int) := by omega
          rw [hqI]
          obtain ⟨k, hkk⟩ : ∃ k, K - (q + 1) = k := ⟨_, rfl⟩
          rw [hkk] at hints
          have HK := Lib.hid hkk
          have hqn : q < n := by have := HKK.out; omega
          have HKn := Lib.hid (show k < n by have := HKK.out; omega)
          have HHS := Lib.hid (show ∀ m, m < n → (hornZ (zAt xp) (zAt xq) K k m).natAbs ≤ (8192 * W64 ^ 4096) ^ k from fun m hm => hornZ_small HN.out (Nat.pow_pos W64_pos) HA.out HB.out k m hm)
          have hIb := hI3'.below hbr
          have hLC := Lib.hid (horn_lc HN.out HKn.out rfl)
          have hP0 := Lib.hid (show 0 < (8192 * W64 ^ 4096) ^ k from horn_pos 4096 k)
          clear hkk h0k
          go_wp2_with fail
          refine (series_times G Gq _ _ n ((8192 * W64 ^ 4096) ^ k) (W64 ^ 4096) gs gs3 _ (zAt xq) wr hints HGS.out hIb HL3.out HN.out hP0.out (Nat.pow_pos W64_pos) hLC.out HHS.out (fun j _ => HB.out j)).mono ?_
          rintro e w5 ⟨gs5, G5, rfl, hl5, hI5, hb5⟩
          have hbr5 : Below w4.heap.size w4 w5 := hbr.trans (hb5.mono hbr.size)
          have hIa5 := hI2'.below hbr5
          have hca := hIa5.cell (i := q) (by rw [HL2.out]; exact hqn)
          have hai := hIa5.at_ q (by rw [HL2.out]; exact hqn)
          unfold ptr at hca
          obtain ⟨ga, hga⟩ : ∃ ga, gs2.getD q 0 = ga := ⟨_, rfl⟩
          rw [hga] at hca hai
          have h0n : 0 < gs5.length := by omega
          have hco := hI5.cell (i := 0) h0n
          have hoi := hI5.at_ 0 h0n
          unfold ptr at hco
          obtain ⟨go, hgo⟩ : ∃ go, gs5.getD 0 0 = go := ⟨_, rfl⟩
          rw [hgo] at hco hoi
          have HGO := Lib.hid hgo
          have HGM := Lib.hid (show w4.heap.size ≤ go by
            have h1 : go ∈ gs5 := by rw [← hgo, show gs5.getD 0 0 = gs5[0] by simp [h0n]]; exact List.getElem_mem _
            exact Nat.le_trans hbr.size (hI5.low.2 go h1).1)
          have HL5 := Lib.hid hl5
          have H0N := Lib.hid h0n
          have hn0 : (0 : Int) < (n : Int) := by omega
          have hqnI : (q : Int) < (n : Int) := by omega
          have r1 := later_cell hca
          have r2 := later_cell hco
          have HLM := Lib.hid (times_len3 hLC.out (Nat.le_refl n) HN.out (mulZ_small (m := 0) HHS.out (fun j _ => HB.out j) (by omega)))
          have HLA := Lib.hid (times_len2 hP0.out (Nat.pow_pos W64_pos) hLC.out (HA.out q))
          clear hga hgo hl5 h0n hca hco hIa5
          go_wp2_with fail
          refine wp_region_stages (fun w' => ∃ δ : Later Nix w5, w' = δ.world) [(false, 0), (false, 1), (false, 2), (false, 3), (false, 4), (false, 5), (false, 6), (false, 7), (false, 8), (false, 9)] 10 [.reads [_, _, _, _, _, _, _, _, _, _]] [_] (by kernel_rfl) (by kernel_rfl) rfl rfl ?_ ?_
          · exact ⟨⟨_, nix_drawn w5⟩, rfl⟩
          refine wpStages_reads ?_
          repeat (go_big_quiet_step (fail))
          refine wpQuiet_nil ?_
          refine wpStages_nil ?_
          go_wp2_with fail
          refine (int_add go go ga _ _ _ (w5.drewN 1) (hoi.drewN 1) (hoi.drewN 1) (hai.drewN 1) (by have := HLM.out; omega) (by have := HLA.out; omega)).mono ?_
          rintro e w6 ⟨rfl, hz6, he6⟩
          have hI6 := (hI5.below (below_drewN (Below.refl _ w5) 1)).write (k := 0) H0N.out (by rw [HGO.out]; exact he6) (by rw [HGO.out]; exact hz6)
          have hbr6 := (Ext.hidden (Ext.of_below (below_drewN hbr5 1) : Ext Nix w4 (w5.drewN 1)) he6 HGM.out).below
          have hszr := hbr.size
          have hszw := hbel.size
          go_wp2_with fail
          go_roundg q
          case measure => omega
          case rel =>
            refine ⟨gs5, G5, by omega, rfl, rfl, HL5.out, (hI6.down (by omega)).congr (fun j _ => ?_), hbr6⟩
            have hk := HK.out
            rw [show K - q = k + 1 by omega]
            show _ = mulZ (hornZ (zAt xp) (zAt xq) K k) (zAt xq) j + (if j = 0 then zAt xp (K - 1 - k) else 0)
            rw [show K - 1 - k = q by omega]
            by_cases hj : j = 0
            · subst hj; simp
            · rw [if_neg hj, if_neg hj]; omega
  · have HE := Lib.hid (show withinR xp xq terms = ([], E) by rw [HO.out, if_pos hE0])
    have tE : (E == 0) = false := beq_eq_false_iff_ne.2 hE0
    clear HO hE0
    go_wp2_with fail
    go_ret2
    rw [HE.out]
    exact ⟨_, rfl, Told.nil _ hb1'.size, hb1'⟩
end Go.Proofs.Ytmnfokapdipcdaa
