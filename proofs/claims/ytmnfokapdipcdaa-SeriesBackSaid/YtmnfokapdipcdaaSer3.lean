import Derived.Test.YtmnfokapdipcdaaSer2
import Derived.Test.YtmnfokapdipcdaaLaw1
/- The package series: over. -/
namespace Go.Proofs.Ytmnfokapdipcdaa
open Go.RowKit Go.Deep
theorem Ints.size_at {w : World} {base G : Nat} {gs : List Nat} {n : Nat} {z : Nat → Int} (h : Ints w base G gs n z) {i : Nat} (hi : i < gs.length) : gs.getD i 0 < w.heap.size := (h.at_ i hi).lt
theorem Ints.since {w w' : World} {base G : Nat} {gs : List Nat} {n : Nat} {z : Nat → Int} (h : Ints w base G gs n z) (e : Below w.heap.size w w') : Ints w' base G gs n z := h.below e
theorem le_pow_of {M : Nat} (hM : 0 < M) (n : Nat) : M ≤ (4 * M) ^ (n + 1) := by
  have h : 0 < (4 * M) ^ n := Nat.pow_pos (by omega)
  rw [Nat.pow_succ]
  exact Nat.le_trans (by omega) (Nat.le_mul_of_pos_left (4 * M) h)
theorem len_of_pow {M n x L : Nat} (hM : 0 < M) (h : x ≤ M) (hl : lc ((4 * M) ^ (n + 1)) ≤ L) : (limbs x).length ≤ L := by
  have h1 : lc x ≤ lc ((4 * M) ^ (n + 1)) := lc_mono (Nat.le_trans h (le_pow_of hM n))
  exact Nat.le_trans h1 hl
theorem sign_ge {x : Int} (h : ¬ x < 0) : 0 ≤ x.sign := by
  rcases Int.lt_or_le 0 x with h1 | h1
  · rw [Int.sign_eq_one_of_pos h1]; omega
  · rw [show x = 0 by omega]; simp
theorem len_of_pow2 {M n x e L : Nat} (hM : 0 < M) (he : e ≤ n + 1) (h : x ≤ (4 * M) ^ e) (hl : lc ((4 * M) ^ (n + 1)) ≤ L) : (limbs x).length ≤ L := by
  have h1 : lc x ≤ lc ((4 * M) ^ (n + 1)) := lc_mono (Nat.le_trans h (Nat.pow_le_pow_right (by omega) he))
  exact Nat.le_trans h1 hl
theorem Ints.keep {w w' : World} {base G P : Nat} {gs : List Nat} {n : Nat} {z : Nat → Int} (h : Ints w base G gs n z) (e : Ext (· = P) w w') (hG : G ≠ P) (hn : P ∉ gs) : Ints w' base G gs n z :=
  ⟨by rw [e.block G h.lt hG]; exact h.row, h.len, h.nodup, h.low, fun i hi => (h.at_ i hi).ext e (fun he => hn (by
    have e1 : gs.getD i 0 = gs[i] := by simp [hi]
    rw [← he, e1]; exact List.getElem_mem hi))⟩
set_option maxHeartbeats 400000 in
set_option maxRecDepth 100000 in
theorem series_over (Ga Gb ba bb n M : Nat) (gsa gsb : List Nat) (a b : Nat → Int) (w : World) (hA : Ints w ba Ga gsa n a) (hla : gsa.length = n) (hB : Ints w bb Gb gsb n b) (hlb : gsb.length = n) (hn : n ≤ 4096)
    (hM : 0 < M) (hMl : lc ((4 * M) ^ (n + 1)) ≤ 134217728) (ha : ∀ k, k < n → (a k).natAbs ≤ M) (hb : ∀ k, k < n → (b k).natAbs ≤ M) :
    Calls Try.prog 53 #[.slice (some ⟨Ga, 0, none⟩) n n, .slice (some ⟨Gb, 0, none⟩) n n] w fun e w' => ∃ gs, e = .returned (.slice (some ⟨w.heap.size, 0, none⟩) n n) ∧ gs.length = n ∧ Ints w' w.heap.size w.heap.size gs n (overZ a b) ∧ Below w.heap.size w w' := by
  have hmk := make_ptrs n (by omega)
  have hnI : (n : Int) ≤ 4096 := by omega
  have HMl := Lib.hid hMl
  clear hMl hn
  go_enter Try.func53, Try.ntmps53
  go_wp2_with fail
  go_loopw [15] (fun t15 wr => ∃ (i : Nat) (gs : List Nat) (pv : Int), i ≤ n ∧ t15 = .int .i64 (i : Int) ∧ gs.length = i ∧ Ints wr w.heap.size w.heap.size gs n (overZ a b) ∧ IntAt wr (w.heap.size + 1) pv ∧ (w.heap.size + 1) ∉ gs ∧ Below w.heap.size w wr) (fun t15 _ => n - (intOf t15).toNat)
  case atStart =>
    have e0 : Ints (w.alloc (.cells (ptrs [] n) 75)) w.heap.size w.heap.size [] n (overZ a b) := ⟨heap_alloc_new w _, by simp, by simp, ⟨Nat.le_refl _, by simp⟩, by simp⟩
    have e1 := IntAt.fresh (w.alloc (.cells (ptrs [] n) 75))
    rw [show (w.alloc (.cells (ptrs [] n) 75)).heap.size = w.heap.size + 1 by simp] at e1
    exact ⟨0, [], 0, by omega, rfl, rfl, e0.below ((Below.refl _ _).alloc (Nat.le_refl _) _), e1, by simp, ((Below.refl _ w).alloc (Nat.le_refl _) _).alloc (by simp) _⟩
  case round =>
    obtain ⟨wo, hwo⟩ : ∃ wo : World, wo = wr := ⟨_, rfl⟩
    subst hwo
    obtain ⟨i, gs, pv, hi, rfl, hgs, hints, hpart, hpn, hbel⟩ := hrel
    by_cases hlt : i < n
    · have hA1 := hA.below (hbel.alloc hbel.size (.cells #[.bool false, .slice none 0 0] 84))
      have hca := hA1.cell (i := i) (by omega)
      have hai := hA1.at_ i (by omega)
      unfold ptr at hca
      obtain ⟨ga, hga⟩ : ∃ ga, gsa.getD i 0 = ga := ⟨_, rfl⟩
      rw [hga] at hca hai
      clear hga
      have HAl := Lib.hid (len_of_pow hM (ha i hlt) HMl.out)
      have HGS := Lib.hid hgs
      clear hgs
      go_wp2_with fail
      refine (int_set wo.heap.size ga 0 (a i) _ (IntAt.fresh wo) hai (by have := HAl.out; omega)).mono ?_
      rintro e w1 ⟨rfl, hz, he1⟩
      have hG := hints.lt
      have he : Ext Nix wo w1 := (Ext.alloc wo _).hidden he1 (Nat.le_refl _)
      have hI1 := hints.below he.below
      have hcG := hI1.empty (by rw [HGS.out]; exact hlt)
      rw [HGS.out] at hcG
      have hfG := hI1.free i
      have hI2 := hI1.push (by rw [HGS.out]; exact hlt) hz (by omega) (fun hm => by have := hints.old hm; omega) (by omega)
      rw [HGS.out] at hI2
      have hbel1 : Below w.heap.size w w1 := hbel.trans (he.below.mono hbel.size)
      have hbel2 := hbel1.setCell (p := ⟨w.heap.size, i, none⟩) (Nat.le_refl _) (ptr wo.heap.size)
      unfold ptr at hI2 hbel2
      clear hca hai hA1
      go_wp2_with fail
      have hsz : wo.heap.size < (w1.setCell ⟨w.heap.size, i, none⟩ (.pointer (some ⟨wo.heap.size, 0, none⟩))).heap.size := by simpa using hz.lt
      have hpart2 : IntAt (w1.setCell ⟨w.heap.size, i, none⟩ (.pointer (some ⟨wo.heap.size, 0, none⟩))) (w.heap.size + 1) pv := by
        have hext : Ext (· = w.heap.size) w1 (w1.setCell ⟨w.heap.size, i, none⟩ (.pointer (some ⟨wo.heap.size, 0, none⟩))) :=
          ⟨rfl, rfl, rfl, by simp, fun j _ hj => Below.heap_setCell _ _ _ j (by simpa using hj), fun j hj _ => by subst hj; exact hI1.noNum⟩
        exact (hpart.ext he (fun h => h)).ext hext (by omega)
      have hne : w.heap.size + 1 ≠ wo.heap.size := by have := hpart.lt; omega
      generalize hW2 : w1.setCell ⟨w.heap.size, i, none⟩ (.pointer (some ⟨wo.heap.size, 0, none⟩)) = W2 at hI2 hbel2 hsz hpart2 ⊢
      clear hW2 hcG hfG hI1 hz he1 hbel1 he
      have hiI : (i : Int) < (n : Int) := by omega
      go_loopw [8] (fun t8 wi => ∃ (k : Nat) (pv : Int), 1 ≤ k ∧ k ≤ i + 1 ∧ t8 = .int .i64 (k : Int) ∧ Ints wi w.heap.size w.heap.size (gs ++ [wo.heap.size]) n (fun j => if j = i then subs (a i) (overZ a b) b i (k - 1) else overZ a b j) ∧ IntAt wi (w.heap.size + 1) pv ∧ Below w.heap.size w wi) (fun t8 _ => i + 1 - (intOf t8).toNat)
      case atStart => exact ⟨1, pv, by omega, by omega, rfl, hI2, hpart2, hbel2⟩
      case round =>
        obtain ⟨k, pv2, hk1, hki, rfl, hI, hp, hbi⟩ := hrel
        by_cases hle : k ≤ i
        · have hBk := hB.below hbi
          have hcb := hBk.cell (i := k) (by omega)
          have hbat := hBk.at_ k (by omega)
          unfold ptr at hcb
          obtain ⟨gb, hgb⟩ : ∃ gb, gsb.getD k 0 = gb := ⟨_, rfl⟩
          rw [hgb] at hcb hbat
          have HGB := Lib.hid hgb
          clear hgb
          have HBl := Lib.hid (len_of_pow hM (hb k (by omega)) HMl.out)
          have hkI : (k : Int) < (n : Int) := by omega
          go_wp2_with fail
          refine (int_sign gb (b k) wr hbat (by have := HBl.out; omega)).mono ?_
          rintro e w3 ⟨rfl, rfl⟩
          by_cases hb0 : b k = 0
          · rw [hb0]
            have HB0 := Lib.hid hb0
            clear hb0
            go_wp2_with fail
            refine ⟨⟨k + 1, pv2, by omega, by omega, by go_num, hI.congr (fun j _ => ?_), hp, hbi⟩, by simp [intOf]; omega⟩
            by_cases hj : j = i
            · simp only [if_pos hj]
              obtain ⟨t, ht⟩ : ∃ t, k = t + 1 := ⟨k - 1, by omega⟩
              subst ht
              show _ = subs (a i) (overZ a b) b i t - _ * b (t + 1)
              rw [HB0.out]; simp
            · simp only [if_neg hj]
          · have ts : ((b k).sign != 0) = true := by simpa using hb0
            obtain ⟨sg, hsg⟩ : ∃ sg, (b k).sign = sg := ⟨_, rfl⟩
            rw [hsg] at ts ⊢
            clear hb0 hsg
            have hgsl : (gs ++ [wo.heap.size]).length = i + 1 := by simp [HGS.out]
            obtain ⟨d, hd⟩ : ∃ d, i - k = d := ⟨_, rfl⟩
            have ed : (i : Int) - (k : Int) = (d : Int) := by omega
            have hci := hI.cell (i := i) (by omega)
            have hcd := hI.cell (i := d) (by omega)
            have hai := hI.at_ i (by omega)
            have had := hI.at_ d (by omega)
            have egi : (gs ++ [wo.heap.size]).getD i 0 = wo.heap.size := by rw [← HGS.out]; simp
            rw [egi] at hci hai
            obtain ⟨gd, hgd⟩ : ∃ gd, (gs ++ [wo.heap.size]).getD d 0 = gd := ⟨_, rfl⟩
            rw [hgd] at hcd had
            simp only [↓reduceIte] at hai
            rw [if_neg (show ¬ d = i by omega)] at had
            unfold ptr at hci hcd
            have hGlt := hI.lt
            have hGb := hB.lt
            have r1 : ∀ δ : Later (· = w.heap.size + 1) wr, δ.world.cell? ⟨w.heap.size, i, none⟩ = some (.pointer (some ⟨wo.heap.size, 0, none⟩)) := fun δ => by
              rw [cell_of_block (w := wr) (δ.ext.block _ hGlt (by simp))]; exact hci
            have r2 : ∀ δ : Later (· = w.heap.size + 1) wr, δ.world.cell? ⟨w.heap.size, d, none⟩ = some (.pointer (some ⟨gd, 0, none⟩)) := fun δ => by
              rw [cell_of_block (w := wr) (δ.ext.block _ hGlt (by simp))]; exact hcd
            have r3 : ∀ δ : Later (· = w.heap.size + 1) wr, δ.world.cell? ⟨Gb, k, none⟩ = some (.pointer (some ⟨gb, 0, none⟩)) := fun δ => by
              rw [cell_of_block (w := wr) (δ.ext.block _ (hBk.lt) (by show ¬ Gb = _; omega))]; exact hcb
            have hdr : Ext (· = w.heap.size + 1) wr (wr.drewN 1) := (Ext.refl _ wr (fun j hj _ => by subst hj; exact hp.num)).drewN 1
            have hne1 : Nonempty (Later (· = w.heap.size + 1) wr) := ⟨⟨_, hdr⟩⟩
            have hdi : (d : Int) < (n : Int) := by omega
            clear egi hgd hci hcd hcb hgsl
            have HD := Lib.hid hd
            clear hd
            go_wp2_with fail
            refine wp_region_stages (fun w' => ∃ δ : Later (· = w.heap.size + 1) wr, w' = δ.world) [(false, 0), (false, 1), (false, 2), (false, 3), (false, 4), (false, 5), (false, 6), (false, 7), (false, 8), (false, 9), (false, 10), (false, 11), (false, 12), (false, 13), (false, 14), (false, 15), (false, 16), (false, 17), (false, 18), (true, 19)] 20 [.reads [_, _, _, _, _, _, _, _, _, _, _, _, _, _, _, _, _, _, _], .loud _] [_] (by kernel_rfl) (by kernel_rfl) rfl rfl ?_ ?_
            · exact ⟨⟨_, hdr⟩, rfl⟩
            have HOd := Lib.hid (len_of_pow2 hM (show d + 1 ≤ n + 1 by omega) (overZ_small hM ha hb d (by omega)) HMl.out)
            have HSk := Lib.hid (len_of_pow2 hM (show i + 1 ≤ n + 1 by omega) (subs_small (a := a i) (o := overZ a b) (b := b) (i := i) (k := k - 1) hM (ha i (by omega)) (fun j hj => hb j (by omega)) (fun j hj => overZ_small hM ha hb j (by omega)) (by omega)) HMl.out)
            refine wpStages_reads ?_
            repeat (go_big_quiet_step (fail))
            refine wpQuiet_nil ?_
            refine wpStages_loud rfl ?_
            intro K hK
            go_big_op
            refine (int_mul (w.heap.size + 1) gd gb pv2 (overZ a b d) (b k) (wr.drewN 1) (hp.drewN 1) (had.drewN 1) (hbat.drewN 1) (by have := HOd.out; omega) (by have := HBl.out; omega)).mono ?_
            rintro e w4 ⟨rfl, hz4, he4⟩
            have he14 : Ext (· = w.heap.size + 1) wr w4 := (hdr.trans he4).mono (fun j _ hj => hj.elim id id) (fun j hj _ => by subst hj; exact hp.num)
            refine hK _ _ ⟨⟨w4, he14⟩, rfl⟩ ?_
            clear hK K
            refine wpStages_nil ?_
            go_wp2_with fail
            have hmul : (limbs (overZ a b d * b k).natAbs).length ≤ 549755813888 := by
              have h1 := lc_mul (overZ a b d).natAbs (b k).natAbs
              rw [← Int.natAbs_mul] at h1
              have h2 := HOd.out
              have h3 := HBl.out
              unfold lc at h1
              omega
            have hP : w.heap.size + 1 ∉ gs ++ [wo.heap.size] := by
              intro hm
              rcases List.mem_append.1 hm with hm | hm
              · exact hpn hm
              · exact hne (by simpa using hm)
            have hI4 := hI.keep he14 (by omega) hP
            have hai4 := hai.ext he14 (fun h => hne h.symm)
            refine (int_sub wo.heap.size wo.heap.size (w.heap.size + 1) _ _ _ w4 hai4 hai4 hz4 (by have := HSk.out; omega) hmul).mono ?_
            rintro e w5 ⟨rfl, hz5, he5⟩
            have egi2 : (gs ++ [wo.heap.size]).getD i 0 = wo.heap.size := by rw [← HGS.out]; simp
            have hI5 := hI4.write (k := i) (by simp [HGS.out]) (v := subs (a i) (overZ a b) b i (k - 1) - overZ a b d * b k) (by rw [egi2]; exact he5) (by rw [egi2]; exact hz5)
            have hp5 := hz4.ext he5 hne
            have hb4 : Below w.heap.size w w4 := ((Ext.of_below hbi : Ext Nix w wr).hidden he14 (by omega)).below
            have hb5 : Below w.heap.size w w5 := ((Ext.of_below hb4 : Ext Nix w w4).hidden he5 (by omega)).below
            have HSUB := Lib.hid (show subs (a i) (overZ a b) b i k = subs (a i) (overZ a b) b i (k - 1) - overZ a b d * b k by
              obtain ⟨t, ht⟩ : ∃ t, k = t + 1 := ⟨k - 1, by omega⟩
              subst ht
              rw [← HD.out]; rfl)
            clear r1 r2 r3 egi2 hmul
            go_wp2_with fail
            refine ⟨⟨k + 1, _, by omega, by omega, by go_num, hI5.congr (fun j _ => ?_), hp5, hb5⟩, by simp [intOf]; omega⟩
            by_cases hj : j = i
            · simp only [if_pos hj, Nat.add_sub_cancel]
              rw [HSUB.out]
            · simp only [if_neg hj]
        · obtain rfl : k = i + 1 := by omega
          have hBk := hB.below hbi
          have hcb := hBk.cell (i := 0) (by omega)
          have hbat := hBk.at_ 0 (by omega)
          unfold ptr at hcb
          obtain ⟨gb, hgb⟩ : ∃ gb, gsb.getD 0 0 = gb := ⟨_, rfl⟩
          rw [hgb] at hcb hbat
          have HBl := Lib.hid (len_of_pow hM (hb 0 (by omega)) HMl.out)
          have hn0 : (0 : Int) < (n : Int) := by omega
          have hgsl : (gs ++ [wo.heap.size]).length = i + 1 := by simp [HGS.out]
          have egi : (gs ++ [wo.heap.size]).getD i 0 = wo.heap.size := by rw [← HGS.out]; simp
          have hci := hI.cell (i := i) (by omega)
          have hai := hI.at_ i (by omega)
          rw [egi] at hci hai
          unfold ptr at hci
          simp only [↓reduceIte, Nat.add_sub_cancel] at hai
          have HP := Lib.hid (show w.heap.size + 1 ∉ gs ++ [wo.heap.size] by
              intro hm
              rcases List.mem_append.1 hm with hm | hm
              · exact hpn hm
              · exact hne (by simpa using hm))
          have HLEN := Lib.hid hgsl
          have HEG := Lib.hid egi
          clear hgb hgsl egi
          go_wp2_with fail
          refine (int_sign gb (b 0) wr hbat (by have := HBl.out; omega)).mono ?_
          rintro e w3 ⟨rfl, rfl⟩
          by_cases hneg : b 0 < 0
          · rw [Int.sign_eq_neg_one_of_neg hneg]
            have HZ := Lib.hid (show overZ a b i = -(subs (a i) (overZ a b) b i i) by rw [overZ_eq]; simp only [if_pos hneg])
            have hrr : ∀ δ : Later Nix wr, δ.world.cell? ⟨w.heap.size, i, none⟩ = some (.pointer (some ⟨wo.heap.size, 0, none⟩)) := fun δ => by
              rw [cell_of_block (w := wr) (δ.ext.block _ (by have := hI.lt; exact this) (fun h => h))]; exact hci
            have HSk := Lib.hid (len_of_pow2 hM (show i + 1 ≤ n + 1 by omega) (subs_small (a := a i) (o := overZ a b) (b := b) (i := i) (k := i) hM (ha i (by omega)) (fun j hj => hb j (by omega)) (fun j hj => overZ_small hM ha hb j (by omega)) (Nat.le_refl i)) HMl.out)
            clear hneg hcb hci
            go_wp2_with fail
            refine wp_region_stages (fun w' => ∃ δ : Later Nix wr, w' = δ.world) [(false, 0), (false, 1), (false, 2), (false, 3), (false, 4), (false, 5), (false, 6), (false, 7)] 8 [.reads [_, _, _, _, _, _, _, _]] [_] (by kernel_rfl) (by kernel_rfl) rfl rfl ?_ ?_
            · exact ⟨⟨_, nix_drawn wr⟩, rfl⟩
            refine wpStages_reads ?_
            repeat (go_big_quiet_step (fail))
            refine wpQuiet_nil ?_
            refine wpStages_nil ?_
            go_wp2_with fail
            refine (int_neg wo.heap.size wo.heap.size _ _ (wr.drewN 1) (hai.drewN 1) (hai.drewN 1) (by have := HSk.out; omega)).mono ?_
            rintro e w5 ⟨rfl, hz5, he5⟩
            have hI5 := (hI.below (below_drewN (Below.refl _ wr) 1)).write (k := i) (by rw [HLEN.out]; omega) (v := -(subs (a i) (overZ a b) b i i)) (by rw [HEG.out]; exact he5) (by rw [HEG.out]; exact hz5)
            have hp5 := (hp.drewN 1).ext he5 hne
            have hb5 : Below w.heap.size w w5 := (Ext.hidden (Ext.of_below (below_drewN hbi 1)) he5 (by omega)).below
            clear hrr
            go_wp2_with fail
            refine ⟨⟨i + 1, gs ++ [wo.heap.size], pv2, by omega, by go_num, HLEN.out, hI5.congr (fun j _ => ?_), hp5, HP.out, hb5⟩, by simp [intOf]; omega⟩
            by_cases hj : j = i
            · rw [hj, HZ.out]; simp
            · simp only [if_neg hj]
          · have HZ := Lib.hid (show overZ a b i = subs (a i) (overZ a b) b i i by rw [overZ_eq]; simp only [if_neg hneg])
            obtain ⟨sg, hsg⟩ : ∃ sg, (b 0).sign = sg := ⟨_, rfl⟩
            have hs0 : 0 ≤ sg := by rw [← hsg]; exact sign_ge hneg
            rw [hsg]
            clear hneg hsg
            go_wp2_with fail
            refine ⟨⟨i + 1, gs ++ [wo.heap.size], pv2, by omega, by go_num, HLEN.out, hI.congr (fun j _ => ?_), hp, HP.out, hbi⟩, by simp [intOf]; omega⟩
            by_cases hj : j = i
            · rw [hj, HZ.out]; simp
            · simp only [if_neg hj]
    · obtain rfl : i = n := by omega
      go_wp2_with fail
      go_ret
      exact ⟨gs, rfl, hgs, hints, hbel⟩
end Go.Proofs.Ytmnfokapdipcdaa
