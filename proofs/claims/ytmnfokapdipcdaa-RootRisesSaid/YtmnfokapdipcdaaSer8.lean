import Derived.Test.YtmnfokapdipcdaaSer6
/- The package series: Turned. -/
namespace Go.Proofs.Ytmnfokapdipcdaa
open Go.RowKit Go.Deep
/-- What series.Turned tells. -/
def turnedR (xp : List Raw) (terms : Int) : List Raw × Int :=
  if mayE terms [xp] ≠ 0 then ([], mayE terms [xp]) else if noughtAt xp 0 && unitAt xp 1 then toldZ (lagZ (zAt one1) (overZ (zAt one1) (zAt (xp.drop 1)))) terms.toNat else ([], 340)
theorem Polys.one {w : World} {Ap : Option Addr} {lp cp : Nat} {xp : List Raw} (hp : Poly w w.heap.size Ap xp) (hlp : lp = xp.length) (hcp : lp ≤ cp) (t : TypeId) :
    Polys (w.alloc (.cells #[.slice Ap lp cp] t)) (w.heap.size + 1) (some ⟨w.heap.size, 0, none⟩) [xp] := by
  have hb : Below w.heap.size w (w.alloc (.cells #[.slice Ap lp cp] t)) := (Below.refl _ _).alloc (Nat.le_refl _) _
  refine ⟨fun _ => ⟨_, rfl, by simp, fun j hj => ?_⟩⟩
  simp only [List.length_cons, List.length_nil] at hj
  obtain rfl : j = 0 := by omega
  exact ⟨Ap, lp, cp, by rw [add_plain, cell_of_row _ _ _ _ _ (0, 0) (heap_alloc_new w _)]; rfl, by simpa using hlp, hcp, (hp.below hb).more (by omega)⟩
theorem Poly.drop_one {w : World} {B : Nat} {ad : Addr} {xs : List Raw} (h : Poly w B (some ad) xs) : Poly w B (some (ad.add 2)) (xs.drop 1) := by
  refine ⟨fun hn => ?_⟩
  rw [List.length_drop] at hn
  obtain ⟨ad', e, hb, hc⟩ := h.cells (by omega)
  injection e with e
  subst e
  refine ⟨_, rfl, by rw [block_of_add]; exact hb, fun j hj => ?_⟩
  rw [List.length_drop] at hj
  obtain ⟨Am, l, c, h1, h2, h3, h4, h5⟩ := hc (j + 1) (by omega)
  have e : (xs.drop 1).getD j (false, []) = xs.getD (j + 1) (false, []) := by simp
  rw [e, add_of_add, show 2 + j * 2 = (j + 1) * 2 by omega]
  exact ⟨Am, l, c, h1, h2, h3, h4, h5⟩
theorem one1_small : (∀ x ∈ one1, x.2.length ≤ 4096) ∧ (∀ x ∈ one1, Small x.2) := by
  refine ⟨fun x hx => ?_, fun x hx => ?_⟩
  · obtain rfl : x = (false, [1]) := by simpa [one1] using hx
    show 1 ≤ 4096
    omega
  · obtain rfl : x = (false, [1]) := by simpa [one1] using hx
    exact Small.one (by rw [W64_eq]; omega)
theorem zAt_one_le (k : Nat) : (zAt one1 k).natAbs ≤ 1 := by
  unfold zAt
  rw [signed_natAbs]
  cases k with
  | zero => simp [one1, val]
  | succ k => simp [one1]
theorem turn_lc {n k t : Nat} (hn : n ≤ 4096) (hk : k < n) (ht : t = 4096) : lc (4096 * ((4096 * (4 * W64 ^ t) ^ (n + 1)) ^ k * (4 * W64 ^ t) ^ (n + 1))) ≤ 137438953472 := by
  have e2 : (4 * W64 ^ t) ^ (n + 1) = 2 ^ ((2 + 64 * t) * (n + 1)) := by
    rw [W64_two, ← Nat.pow_mul, show (4 : Nat) = 2 ^ 2 from rfl, ← Nat.pow_add, ← Nat.pow_mul]
  rw [e2]
  have h1 : 4096 * ((4096 * 2 ^ ((2 + 64 * t) * (n + 1))) ^ k * 2 ^ ((2 + 64 * t) * (n + 1))) = (4096 * 2 ^ ((2 + 64 * t) * (n + 1))) ^ (k + 1) := by
    rw [Nat.pow_succ]
    generalize (4096 * 2 ^ ((2 + 64 * t) * (n + 1))) ^ k = P
    generalize 2 ^ ((2 + 64 * t) * (n + 1)) = Q
    grind
  rw [h1]
  refine lc_pow_le (b := 12 + (2 + 64 * t) * (n + 1)) ?_ (Nat.le_of_eq ?_)
  · subst ht
    obtain ⟨X, hX⟩ : ∃ X, (2 + 64 * 4096) * (n + 1) = X := ⟨_, rfl⟩
    have h2 : X ≤ 1074012162 := by omega
    rw [hX]
    have h3 : (12 + X) * (k + 1) ≤ (12 + X) * 4096 := Nat.mul_le_mul_left _ (by omega)
    omega
  · rw [Nat.pow_add]
theorem by_small {a b : Nat → Int} {n t : Nat} (ha : ∀ k, (a k).natAbs ≤ W64 ^ t) (hb : ∀ k, (b k).natAbs ≤ W64 ^ t) (k : Nat) (hk : k < n) : (overZ a b k).natAbs ≤ (4 * W64 ^ t) ^ (n + 1) :=
  Nat.le_trans (overZ_small (n := n) (Nat.pow_pos W64_pos) (fun j _ => ha j) (fun j _ => hb j) k hk) (Nat.pow_le_pow_right (Nat.mul_pos (by omega) (Nat.pow_pos W64_pos)) (by omega))
theorem turn_bound {a b : Nat → Int} {n t : Nat} (ht : t = 4096) (hn : n ≤ 4096) (ha : ∀ k, (a k).natAbs ≤ W64 ^ t) (hb : ∀ k, (b k).natAbs ≤ W64 ^ t) :
    ∃ B, 0 < B ∧ (∀ k, k < n → (overZ a b k).natAbs ≤ B) ∧ ∀ k, k < n → lc (4096 * ((4096 * B) ^ k * B)) ≤ 137438953472 :=
  ⟨(4 * W64 ^ t) ^ (n + 1), Nat.pow_pos (Nat.mul_pos (by omega) (Nat.pow_pos W64_pos)), by_small ha hb, fun _ hk => turn_lc hn hk ht⟩
theorem drop_small {xs : List Raw} (h : ∀ x ∈ xs, x.2.length ≤ 4096) : ∀ x ∈ xs.drop 1, x.2.length ≤ 4096 := fun x hx => h x (List.mem_of_mem_drop hx)
set_option maxRecDepth 100000 in
theorem series_Turned (Ap : Option Addr) (lp cp : Nat) (xp : List Raw) (terms : Int) (w : World) (hp : Poly w w.heap.size Ap xp) (hlp : lp = xp.length) (hcp : lp ≤ cp) :
    Calls Try.prog 25 #[.slice Ap lp cp, .int .i64 terms] w fun e w' => ∃ v, e = .returned (.tuple #[v, .int .i64 (turnedR xp terms).2]) ∧ Told w' w.heap.size v (turnedR xp terms).1 ∧ Below w.heap.size w w' := by
  have HLP := Lib.hid hlp
  have HCP := Lib.hid hcp
  obtain ⟨E, hE⟩ : ∃ E, mayE terms [xp] = E := ⟨_, rfl⟩
  have HM := Lib.hid hE
  obtain ⟨u0, hu0⟩ : ∃ u, noughtAt xp 0 = u := ⟨_, rfl⟩
  have HU0 := Lib.hid hu0
  obtain ⟨u1, hu1⟩ : ∃ u, unitAt xp 1 = u := ⟨_, rfl⟩
  have HU1 := Lib.hid hu1
  have HO := Lib.hid (show turnedR xp terms = if E ≠ 0 then ([], E) else if u0 && u1 then toldZ (lagZ (zAt one1) (overZ (zAt one1) (zAt (xp.drop 1)))) terms.toNat else ([], 340) by rw [turnedR, hE, hu0, hu1])
  clear hlp hcp hE hu0 hu1
  go_enter Try.func25, Try.ntmps25
  go_wp2_with fail
  have hps := Polys.one hp HLP.out HCP.out 22
  refine (series_may terms _ 1 1 [xp] _ (by simpa using hps) rfl (by omega)).mono ?_
  rintro e w1 ⟨rfl, hb1⟩
  have hb1' : Below w.heap.size w w1 := ((Below.refl _ w).alloc (Nat.le_refl _) _).trans (hb1.mono (by simp))
  rw [HM.out]
  by_cases hE0 : E = 0
  · subst hE0
    obtain ⟨h0, h4, hr⟩ := mayE_zero HM.out
    obtain ⟨n, rfl⟩ : ∃ n : Nat, terms = (n : Int) := ⟨terms.toNat, by omega⟩
    have hp1 := (hp.below hb1').more hb1'.size
    have HSP := Lib.hid (right_len (hr xp (by simp))).2
    have HLE := Lib.hid (right_len (hr xp (by simp))).1
    clear hr
    go_wp2_with fail
    refine (series_nought 0 Ap lp cp xp w1 hp1 HLP.out).mono ?_
    rintro e w2 ⟨rfl, rfl⟩
    rw [HU0.out]
    cases u0 with
    | false =>
      have HE := Lib.hid (show turnedR xp (n : Int) = ([], 340) by rw [HO.out]; rfl)
      clear HO
      go_wp2_with fail
      go_ret2
      rw [HE.out]
      exact ⟨_, rfl, Told.nil _ hb1'.size, hb1'⟩
    | true =>
      go_wp2_with fail
      refine (series_unit 1 Ap lp cp xp w1 hp1 HLP.out).mono ?_
      rintro e w2 ⟨rfl, rfl⟩
      rw [HU1.out]
      cases u1 with
      | false =>
        have HE := Lib.hid (show turnedR xp (n : Int) = ([], 340) by rw [HO.out]; rfl)
        clear HO
        go_wp2_with fail
        go_ret2
        rw [HE.out]
        exact ⟨_, rfl, Told.nil _ hb1'.size, hb1'⟩
      | true =>
        have HO2 := Lib.hid (show turnedR xp (n : Int) = toldZ (lagZ (zAt one1) (overZ (zAt one1) (zAt (xp.drop 1)))) n by rw [HO.out]; rfl)
        clear HO
        have HN := Lib.hid (show n ≤ 4096 by omega)
        have hnI : (n : Int) ≤ 4096 := by omega
        have hl2 : 1 < lp := by
          have h := HU1.out
          unfold unitAt at h
          have hlp := HLP.out
          rcases Nat.lt_or_ge 1 xp.length with h1 | h1
          · omega
          · rw [show xp.getD 1 (false, []) = (false, []) by simp [show xp[1]? = none from List.getElem?_eq_none h1]] at h
            simp at h
        obtain ⟨ad, hAp⟩ : ∃ ad, Ap = some ad := by
          obtain ⟨ad, e, _⟩ := hp1.cells (by have := HLP.out; omega)
          exact ⟨ad, e⟩
        subst hAp
        have hl2I : (1 : Int) < (lp : Int) := by omega
        have hcI : (lp : Int) ≤ (cp : Int) := by have := HCP.out; omega
        have hlI : (lp : Int) ≤ 4096 := by have := HLP.out; have := HLE.out; omega
        have hc1 : 1 < cp := by omega
        go_wp2_with fail
        refine (series_value none 0 0 n [] w1 (Poly.nil _ _ _) rfl HN.out (by simp)).mono ?_
        rintro e w2 ⟨gs2, rfl, hl2, hI2, hb2⟩
        have HL2 := Lib.hid hl2
        clear hl2
        go_wp2_with fail
        have hbA : Below w2.heap.size w2 ((w2.alloc (.cells #[.int .u64 1] 33)).alloc (.cells #[.bool false, .slice (some ⟨w2.heap.size, 0, none⟩) 1 1] 36)) := ((Below.refl _ w2).alloc (Nat.le_refl _) _).alloc (by simp) _
        have hpo := Poly.one (w := w2) (t1 := 33) (t2 := 36)
        have hszA : ((w2.alloc (.cells #[.int .u64 1] 33)).alloc (.cells #[.bool false, .slice (some ⟨w2.heap.size, 0, none⟩) 1 1] 36)).heap.size = w2.heap.size + 2 := by simp
        generalize (w2.alloc (.cells #[.int .u64 1] 33)).alloc (.cells #[.bool false, .slice (some ⟨w2.heap.size, 0, none⟩) 1 1] 36) = w3 at hbA hpo hszA ⊢
        rw [← hszA] at hpo
        refine (series_value _ 1 1 n one1 w3 hpo rfl HN.out one1_small.1).mono ?_
        rintro e w4 ⟨gs4, rfl, hl4, hI4, hb4⟩
        have HL4 := Lib.hid hl4
        clear hl4
        have hb14 : Below w1.heap.size w1 w4 := (hb2.trans (hbA.mono hb2.size)).trans (hb4.mono (Nat.le_trans hb2.size hbA.size))
        have hb24 : Below w2.heap.size w2 w4 := hbA.trans (hb4.mono hbA.size)
        have hp4 := ((hp1.below hb14).more hb14.size).drop_one
        rw [show ad.add 2 = ⟨ad.block, ad.off + 2, none⟩ from add_succ ad 1] at hp4
        have HS32 := Lib.hid hszA
        clear hszA
        have HLD := Lib.hid (show lp - 1 = (xp.drop 1).length by rw [List.length_drop, HLP.out])
        have HDS := Lib.hid (drop_small HSP.out)
        go_wp2_with fail
        refine (series_value _ (lp - 1) (cp - 1) n (xp.drop 1) w4 hp4 HLD.out HN.out HDS.out).mono ?_
        rintro e w5 ⟨gs5, rfl, hl5, hI5, hb5⟩
        have HOA := Lib.hid (zAt_small one1_small.1 one1_small.2)
        have HOB := Lib.hid (zAt_small HDS.out hp4.small)
        have hlc := Lib.hid (lc_bound HN.out)
        go_wp2_with fail
        refine (series_over w3.heap.size w4.heap.size _ _ n (W64 ^ 4096) gs4 gs5 (zAt one1) (zAt (xp.drop 1)) w5 (hI4.below hb5) HL4.out hI5 hl5 HN.out (Nat.pow_pos W64_pos) hlc.out (fun k _ => HOA.out k) (fun k _ => HOB.out k)).mono ?_
        rintro e w6 ⟨gs6, rfl, hl6, hI6, hb6⟩
        have HL6 := Lib.hid hl6
        clear hl6
        have hb46 : Below w4.heap.size w4 w6 := hb5.trans (hb6.mono hb5.size)
        have hb26 : Below w2.heap.size w2 w6 := hb24.trans (hb46.mono hb24.size)
        have hI2' := hI2.below hb26
        have HOld := Lib.hid (fun g (hg : g ∈ gs2) => hI2.old hg)
        have hI4' := (hI4.below hb46).down (show w2.heap.size ≤ w3.heap.size by rw [HS32.out]; omega)
        have hI6' := hI6.down (show w2.heap.size ≤ w5.heap.size from Nat.le_trans hb24.size hb5.size)
        have hbW : Below w.heap.size w w6 := hb1'.trans ((hb14.trans (hb46.mono hb14.size)).mono hb1'.size)
        obtain ⟨B, hB0, hBZ, hBL⟩ := turn_bound (n := n) (t := 4096) rfl HN.out HOA.out HOB.out
        have HB0 := Lib.hid hB0
        have HBZ := Lib.hid hBZ
        have HBL := Lib.hid hBL
        clear hB0 hBZ hBL
        generalize overZ (zAt one1) (zAt (xp.drop 1)) = by_ at *
        clear hI4 hb4 hb5 hI5 hl5 hpo hp4 hps hb1 hI6 hI2
        have hsz16 : w1.heap.size ≤ w6.heap.size := Nat.le_trans hb14.size hb46.size
        have hszw1 := hb1'.size
        have hsz22 := hb2.size
        generalize w5.heap.size = G6 at *
        generalize w3.heap.size = G3 at *
        generalize w1.heap.size = G2 at *
        go_wp2_with fail
        go_loopw [10, 11] (fun t10 t11 wr => ∃ (k : Nat) (gs : List Nat) (G : Nat), 1 ≤ k ∧ (k ≤ n ∨ k = 1) ∧ t11 = .int .i64 (k : Int) ∧ t10 = .slice (some ⟨G, 0, none⟩) n n ∧ gs.length = n ∧ Ints wr w2.heap.size G gs n (powZ (zAt one1) by_ (k - 1)) ∧ Ints wr G2 G2 gs2 n (fun m => if m < k then lagZ (zAt one1) by_ m else 0) ∧ Ints wr w2.heap.size G6 gs6 n by_ ∧ Below w.heap.size w wr) (fun _ t11 _ => n - (intOf t11).toNat)
        case atStart =>
          refine ⟨1, gs4, G3, Nat.le_refl _, .inr rfl, rfl, rfl, HL4.out, hI4', hI2'.congr (fun j _ => ?_), hI6', hbW⟩
          have e0 : zAt [] j = 0 := by unfold zAt; simp [signed]
          rw [e0]
          by_cases hj : j < 1
          · rw [if_pos hj, show j = 0 by omega]; rfl
          · rw [if_neg hj]
        case round =>
          clear hI2' hI4' hI6' hbW hb6 hb46 hb26 hb14 hb2 hp1 hbA hb24
          obtain ⟨k, gs, G, hk1, hkn, rfl, rfl, hgs, hints, hout, hby, hbel⟩ := hrel
          have HGS := Lib.hid hgs
          clear hgs
          by_cases hlt : k < n
          · obtain ⟨q, rfl⟩ : ∃ q, k = q + 1 := ⟨k - 1, by omega⟩
            rw [Nat.add_sub_cancel] at hints
            have hqn : q < n := by omega
            have HPS := Lib.hid (show ∀ m, m < n → (powZ (zAt one1) by_ q m).natAbs ≤ (4096 * B) ^ q from powZ_small HN.out (fun j _ => zAt_one_le j) HBZ.out q)
            have HP0 := Lib.hid (show 0 < (4096 * B) ^ q from Nat.pow_pos (Nat.mul_pos (by omega) HB0.out))
            have hltI : ((q + 1 : Nat) : Int) < (n : Int) := by omega
            obtain ⟨kk, hkk⟩ : ∃ kk, q + 1 = kk := ⟨_, rfl⟩
            have hqI : (kk : Int) - 1 = (q : Int) := by omega
            rw [hkk] at hltI hlt hk1 hkn hout ⊢
            have HKq := Lib.hid hkk
            clear hkk
            go_wp2_with fail
            refine (series_times G G6 _ _ n ((4096 * B) ^ q) B gs gs6 _ by_ wr hints HGS.out hby HL6.out HN.out HP0.out HB0.out (HBL.out q hqn) HPS.out HBZ.out).mono ?_
            rintro e w7 ⟨gs7, G7, rfl, hl7, hI7, hb7⟩
            have HL7 := Lib.hid hl7
            clear hl7
            have hout7 := hout.below hb7
            have hby7 := hby.below hb7
            have hI7' := hI7.down (show w2.heap.size ≤ wr.heap.size from Nat.le_trans hby.low.1 (Nat.le_of_lt hby.lt))
            have hbel7 : Below w.heap.size w w7 := hbel.trans (hb7.mono hbel.size)
            have HLP7 := Lib.hid (times_len3 (HBL.out q hqn) (Nat.le_refl n) HN.out (mulZ_small (m := q) HPS.out HBZ.out hqn))
            have hcp := hI7'.cell (i := q) (by rw [HL7.out]; exact hqn)
            have hip := hI7'.at_ q (by rw [HL7.out]; exact hqn)
            have hco := hout7.cell (i := kk) (by rw [HL2.out]; exact hlt)
            have hio := hout7.at_ kk (by rw [HL2.out]; exact hlt)
            unfold ptr at hcp hco
            obtain ⟨gp, hgp⟩ : ∃ gp, gs7.getD q 0 = gp := ⟨_, rfl⟩
            rw [hgp] at hcp hip
            obtain ⟨go, hgo⟩ : ∃ go, gs2.getD kk 0 = go := ⟨_, rfl⟩
            rw [hgo] at hco hio
            have HGO := Lib.hid hgo
            have HMem := Lib.hid (show go ∈ gs2 by
              have h1 : kk < gs2.length := by rw [HL2.out]; exact hlt
              rw [← hgo, show gs2.getD kk 0 = gs2[kk] by simp [h1]]; exact List.getElem_mem _)
            have r1 := later_cell hcp
            have r2 := later_cell hco
            have hqnI : (q : Int) < (n : Int) := by omega
            have HK0 := Lib.hid (show (kk : Int) ≠ 0 by omega)
            have HKI := Lib.hid (show (kk : Int) ≤ 4096 by omega)
            clear hgp hgo hcp hco hints hby hout
            go_wp2_with fail
            refine wp_region_stages (fun w' => ∃ δ : Later Nix w7, w' = δ.world) [(false, 0), (false, 1), (false, 2), (false, 3), (false, 4), (false, 5), (false, 6), (false, 7), (false, 8), (false, 9), (true, 10)] 11 [.reads [_, _, _, _, _, _, _, _, _, _], .loud _] [_] (by kernel_rfl) (by kernel_rfl) rfl rfl ?_ ?_
            · exact ⟨⟨_, nix_drawn w7⟩, rfl⟩
            refine wpStages_reads ?_
            repeat (go_big_quiet_step (fail))
            refine wpQuiet_nil ?_
            refine wpStages_loud rfl ?_
            intro K hK
            go_big_op
            refine (big_newInt (kk : Int) (w7.drewN 1) (by omega) (by have := HKI.out; omega)).mono ?_
            rintro e w8 ⟨rfl, hz8, he8⟩
            have he78 : Ext Nix w7 w8 := ((nix_drawn w7).trans he8).mono (fun j _ hj => hj.elim id id) (fun _ h => h.elim)
            refine hK _ _ ⟨⟨w8, he78⟩, rfl⟩ ?_
            clear hK K
            refine wpStages_nil ?_
            go_wp2_with fail
            refine (int_quo go gp _ _ _ (kk : Int) w8 (hio.ext he78 (fun h => h)) (hip.ext he78 (fun h => h)) hz8 HK0.out (by have := HLP7.out; omega) (by
              have h1 : lc (kk : Int).natAbs ≤ 1 := lc_limb (by have := HKI.out; rw [W64_eq]; omega)
              unfold lc at h1
              omega)).mono ?_
            rintro e w9 ⟨rfl, hz9, he9⟩
            have hout9 := (hout7.below he78.below).write (k := kk) (by rw [HL2.out]; exact hlt) (by rw [HGO.out]; exact he9) (by rw [HGO.out]; exact hz9)
            have HGL := Lib.hid (HOld.out go HMem.out)
            have hI9 := (hI7'.below he78.below).keep he9 (by have := hI7'.low.1; have := HGL.out; omega) (fun hm => by have := (hI7'.low.2 go hm).1; have := HGL.out; omega)
            have hby9 := (hby7.below he78.below).keep he9 (by have := hby7.low.1; have := HGL.out; omega) (fun hm => by have := (hby7.low.2 go hm).1; have := HGL.out; omega)
            have hbel9 := (Ext.hidden ((Ext.of_below hbel7 : Ext Nix w w7).later (Ext.of_below he78.below)) he9 (by have := (hout7.low.2 go HMem.out).1; omega)).below
            go_wp2_with fail
            refine ⟨⟨kk + 1, gs7, G7, by omega, .inl (by omega), by go_num, rfl, HL7.out, ?_, hout9.congr (fun j _ => ?_), hby9, hbel9⟩, by simp [intOf]; omega⟩
            · rw [Nat.add_sub_cancel, ← HKq.out]; exact hI9
            · by_cases hj : j = kk
              · subst hj
                rw [if_pos rfl, if_pos (by omega)]
                unfold lagZ
                rw [if_neg (by omega), ← HKq.out]
                rfl
              · rw [if_neg hj]
                by_cases hj2 : j < kk
                · rw [if_pos hj2, if_pos (by omega)]
                · rw [if_neg hj2, if_neg (by omega)]
          · have hltI : (n : Int) ≤ (k : Int) := by omega
            have HLen := Lib.hid (show ∀ m, m < n → (limbs (lagZ (zAt one1) by_ m).natAbs).length ≤ 549755813888 from fun m hm => by
              unfold lagZ
              by_cases h0m : m = 0
              · rw [if_pos h0m]; simp [limbs_zero]
              · rw [if_neg h0m]
                obtain ⟨q, rfl⟩ : ∃ q, m = q + 1 := ⟨m - 1, by omega⟩
                have h1 := times_len3 (HBL.out q (by omega)) (Nat.le_refl n) HN.out (mulZ_small (m := q) (powZ_small HN.out (fun j _ => zAt_one_le j) HBZ.out q) HBZ.out (by omega))
                have h2 : ((powZ (zAt one1) by_ (q + 1) (q + 1 - 1)).tdiv ((q + 1 : Nat) : Int)).natAbs ≤ (powZ (zAt one1) by_ (q + 1) q).natAbs := by
                  rw [Nat.add_sub_cancel, Int.natAbs_tdiv]
                  exact Nat.div_le_self _ _
                exact Nat.le_trans (limbs_mono h2) (Nat.le_trans h1 (by omega)))
            go_wp2_with fail
            refine (series_told G2 n G2 gs2 (lagZ (zAt one1) by_) wr (hout.congr (fun j hj => by rw [if_pos (by rw [HL2.out] at hj; omega)])) HL2.out HN.out HLen.out).mono ?_
            rintro e w9 ⟨v, rfl, ht, hb9⟩
            go_wp2_with fail
            go_ret2
            rw [HO2.out]
            exact ⟨v, rfl, ht.since hbel.size, hbel.trans (hb9.mono hbel.size)⟩
  · have HE := Lib.hid (show turnedR xp terms = ([], E) by rw [HO.out, if_pos hE0])
    have tE : (E == 0) = false := beq_eq_false_iff_ne.2 hE0
    clear HO hE0
    go_wp2_with fail
    go_ret2
    rw [HE.out]
    exact ⟨_, rfl, Told.nil _ hb1'.size, hb1'⟩
end Go.Proofs.Ytmnfokapdipcdaa
