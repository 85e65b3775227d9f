import Derived.Test.YtmnfokapdipcdaaSer4
/- The package series: times and its closure. -/
namespace Go.Proofs.Ytmnfokapdipcdaa
open Go.RowKit Go.Deep
set_option maxRecDepth 100000 in
theorem series_put (i k d n hb ho ha Ga Gb O ga gb go : Nat) (x y z : Int) (w : World)
    (cb : w.cell? ⟨hb, 0, none⟩ = some (.slice (some ⟨Gb, 0, none⟩) n n)) (co : w.cell? ⟨ho, 0, none⟩ = some (.slice (some ⟨O, 0, none⟩) n n)) (ca : w.cell? ⟨ha, 0, none⟩ = some (.slice (some ⟨Ga, 0, none⟩) n n))
    (c1 : w.cell? ⟨Gb, k, none⟩ = some (.pointer (some ⟨gb, 0, none⟩))) (c2 : w.cell? ⟨Ga, i, none⟩ = some (.pointer (some ⟨ga, 0, none⟩))) (c3 : w.cell? ⟨O, d, none⟩ = some (.pointer (some ⟨go, 0, none⟩)))
    (hx : IntAt w ga x) (hy : IntAt w gb y) (hz : IntAt w go z) (hd : i + k = d) (hdn : d < n) (hn : n ≤ 4096)
    (lx : (limbs x.natAbs).length ≤ 137438953472) (ly : (limbs y.natAbs).length ≤ 137438953472) (lz : (limbs z.natAbs).length ≤ 137438953472) :
    Calls Try.prog 112 #[.int .i64 (i : Int), .int .i64 (k : Int), .pointer (some ⟨hb, 0, none⟩), .pointer (some ⟨ho, 0, none⟩), .pointer (some ⟨ha, 0, none⟩)] w fun e w' => e = .returned (.tuple #[]) ∧ IntAt w' go (z + x * y) ∧ Ext (· = go) w w' := by
  have hnI : (n : Int) ≤ 4096 := by omega
  have hdI : (d : Int) < (n : Int) := by omega
  have e1 : ((i : Int) + (k : Int)) = (d : Int) := by omega
  have hiI : (i : Int) < (n : Int) := by omega
  have hkI : (k : Int) < (n : Int) := by omega
  have hkn : k < n := by omega
  have hin : i < n := by omega
  have LX := Lib.hid lx
  have LY := Lib.hid ly
  have LZ := Lib.hid lz
  clear lx ly lz hd hn
  have rb := later_cell cb
  have ro := later_cell co
  have ra := later_cell ca
  have r1 := later_cell c1
  have r2 := later_cell c2
  have r3 := later_cell c3
  go_enter Try.func112, Try.ntmps112
  go_wp2_with fail
  refine (int_sign gb y w hy (by have := LY.out; omega)).mono ?_
  rintro e w1 ⟨rfl, rfl⟩
  by_cases hy0 : y = 0
  · have hs : y.sign = 0 := by rw [hy0]; rfl
    have HE := Lib.hid (show z + x * y = z by rw [hy0]; simp)
    clear hy0
    rw [hs]
    clear hs
    go_wp2_with fail
    refine bodyPost_end (results_none rfl _ _ _) rfl ?_
    rw [HE.out]
    exact ⟨rfl, hz, Ext.refl _ _ (fun j hj _ => by subst hj; exact hz.num)⟩
  · obtain ⟨sg, hsg⟩ : ∃ sg, y.sign = sg := ⟨_, rfl⟩
    have hs : (sg == 0) = false := beq_eq_false_iff_ne.2 (fun e => hy0 (Int.sign_eq_zero_iff_zero.1 (by rw [hsg, e])))
    have hs2 : (sg != 0) = true := by rw [bne, hs]; rfl
    rw [hsg]
    clear hy0 hsg
    go_wp2_with fail
    refine wp_region_stages (fun w' => ∃ δ : Later Nix w, w' = δ.world) [(false, 0), (false, 1), (false, 2), (false, 3), (false, 4), (false, 5), (false, 6), (false, 7), (false, 8), (false, 9), (false, 10), (false, 11), (false, 13), (false, 14), (false, 15), (false, 16), (false, 17), (false, 18), (false, 19), (false, 20), (true, 12), (true, 21)] 22 [.reads [_, _, _, _, _, _, _, _, _, _, _, _, _, _, _, _, _, _, _, _], .loud _, .loud _] [_] (by kernel_rfl) (by kernel_rfl) rfl rfl ?_ ?_
    · exact ⟨⟨_, nix_drawn w⟩, rfl⟩
    refine wpStages_reads ?_
    repeat (go_big_quiet_step (fail))
    refine wpQuiet_nil ?_
    refine wpStages_loud rfl ?_
    intro K hK
    go_big_op
    have hA : Ext Nix w ((w.drewN 1).alloc (.cells #[.bool false, .slice none 0 0] 84)) := (nix_drawn w).later (Ext.of_below ((Below.refl _ _).alloc (Nat.le_refl _) _))
    refine hK _ _ ⟨⟨_, hA⟩, rfl⟩ ?_
    clear hK K
    refine wpStages_loud rfl ?_
    intro K hK
    go_big_op
    have hfr := IntAt.fresh (w.drewN 1)
    refine (int_mul w.heap.size ga gb 0 x y _ hfr (hx.ext hA (fun h => h)) (hy.ext hA (fun h => h)) (by have := LX.out; omega) (by have := LY.out; omega)).mono ?_
    rintro e w4 ⟨rfl, hz4, he4⟩
    have he14 : Ext Nix w w4 := hA.hidden he4 (Nat.le_refl _)
    refine hK _ _ ⟨⟨w4, he14⟩, rfl⟩ ?_
    clear hK K
    refine wpStages_nil ?_
    go_wp2_with fail
    have hmul := Lib.hid (show (limbs (x * y).natAbs).length ≤ 274877906944 by
      have h1 := lc_mul x.natAbs y.natAbs
      rw [← Int.natAbs_mul] at h1
      have h2 := LX.out
      have h3 := LY.out
      unfold lc at h1
      omega)
    refine (int_add go go w.heap.size z z (x * y) w4 (hz.ext he14 (fun h => h)) (hz.ext he14 (fun h => h)) hz4 (by have := LZ.out; omega) (by have := hmul.out; omega)).mono ?_
    rintro e w5 ⟨rfl, hz5, he5⟩
    go_wp2_with fail
    refine bodyPost_end (results_none rfl _ _ _) rfl ?_
    exact ⟨rfl, hz5, he14.after he5 hz.num⟩
theorem Ext.hide {G : Nat → Prop} {g : Nat} {w wa w1 : World} (h : Ext G w wa) (k : Ext (· = g) wa w1) (hg : w.heap.size ≤ g) : Ext G w w1 :=
  ⟨k.os.trans h.os, k.tape.trans h.tape, k.output.trans h.output, Nat.le_trans h.size k.size, fun i hi hn => (k.block i (Nat.lt_of_lt_of_le hi h.size) (by show ¬ i = g; omega)).trans (h.block i hi hn), h.num⟩
theorem Ext.more {G : Nat → Prop} {w wa w1 : World} (h : Ext G w wa) (k : Below wa.heap.size wa w1) : Ext G w w1 :=
  ⟨k.os.trans h.os, k.tape.trans h.tape, k.output.trans h.output, Nat.le_trans h.size k.size, fun i hi hn => (k.block i (Nat.lt_of_lt_of_le hi h.size)).trans (h.block i hi hn), h.num⟩
theorem times_start (w : World) (x y : Value) (n : Nat) : ∃ W1 : World, (((w.alloc (.cells #[x] 66)).alloc (.cells #[y] 66)).alloc (.cells (ptrs [] n) 75)).alloc (.cells #[.slice (some ⟨w.heap.size + 1 + 1, 0, none⟩) n n] 66) = W1 ∧
    W1.heap.size = w.heap.size + 4 ∧ W1.cell? ⟨w.heap.size, 0, none⟩ = some x ∧ W1.cell? ⟨w.heap.size + 1, 0, none⟩ = some y ∧ W1.cell? ⟨w.heap.size + 1 + 1 + 1, 0, none⟩ = some (.slice (some ⟨w.heap.size + 1 + 1, 0, none⟩) n n) ∧
    Ints W1 w.heap.size (w.heap.size + 1 + 1) [] n (fun _ => 0) ∧ Below w.heap.size w W1 := by
  refine ⟨_, rfl, by simp, ?_, ?_, ?_, ⟨?_, by simp, by simp, ⟨by omega, by simp⟩, by simp⟩, ?_⟩
  · have h := heap_alloc_new w (.cells #[x] 66)
    rw [cell_of_row _ _ 0 #[x] 66 (0, 0)]
    · rfl
    · rw [Below.heap_alloc _ _ _ (by simp; omega), Below.heap_alloc _ _ _ (by simp; omega), Below.heap_alloc _ _ _ (by simp)]; exact h
  · have h := heap_alloc_new (w.alloc (.cells #[x] 66)) (.cells #[y] 66)
    rw [cell_of_row _ _ 0 #[y] 66 (0, 0)]
    · rfl
    · rw [Below.heap_alloc _ _ _ (by simp), Below.heap_alloc _ _ _ (by simp)]
      simpa using h
  · have h := heap_alloc_new (((w.alloc (.cells #[x] 66)).alloc (.cells #[y] 66)).alloc (.cells (ptrs [] n) 75)) (.cells #[.slice (some ⟨w.heap.size + 1 + 1, 0, none⟩) n n] 66)
    rw [cell_of_row _ _ 0 #[.slice (some ⟨w.heap.size + 1 + 1, 0, none⟩) n n] 66 (0, 0)]
    · rfl
    · simpa using h
  · have h := heap_alloc_new ((w.alloc (.cells #[x] 66)).alloc (.cells #[y] 66)) (.cells (ptrs [] n) 75)
    rw [Below.heap_alloc _ _ _ (by simp)]
    simpa using h
  · exact ((((Below.refl _ w).alloc (Nat.le_refl _) _).alloc (by simp) _).alloc (by simp; omega) _).alloc (by simp; omega) _
theorem times_len {A B x : Nat} (hA : 0 < A) (hB : 0 < B) {L : Nat} (hL : lc (4096 * (A * B)) ≤ L) (h : x ≤ A) : (limbs x).length ≤ L := by
  have h1 : A ≤ A * B := Nat.le_mul_of_pos_right _ hB
  have h2 : lc x ≤ lc (4096 * (A * B)) := lc_mono (by omega)
  exact Nat.le_trans h2 hL
theorem times_len2 {A B x : Nat} (hA : 0 < A) (hB : 0 < B) {L : Nat} (hL : lc (4096 * (A * B)) ≤ L) (h : x ≤ B) : (limbs x).length ≤ L := by
  rw [Nat.mul_comm A B] at hL
  exact times_len hB hA hL h
theorem times_len3 {A B x n i : Nat} {L : Nat} (hL : lc (4096 * (A * B)) ≤ L) (hi : i ≤ n) (hn : n ≤ 4096) (h : x ≤ i * (A * B)) : (limbs x).length ≤ L := by
  have h1 : i * (A * B) ≤ 4096 * (A * B) := Nat.mul_le_mul_right _ (by omega)
  have h2 : lc x ≤ lc (4096 * (A * B)) := lc_mono (by omega)
  exact Nat.le_trans h2 hL
set_option maxRecDepth 100000 in
theorem series_times (Ga Gb ba bb n A B : Nat) (gsa gsb : List Nat) (a b : Nat → Int) (w : World) (hA : Ints w ba Ga gsa n a) (hla : gsa.length = n) (hB : Ints w bb Gb gsb n b) (hlb : gsb.length = n) (hn : n ≤ 4096)
    (hA0 : 0 < A) (hB0 : 0 < B) (hL : lc (4096 * (A * B)) ≤ 137438953472) (ha : ∀ k, k < n → (a k).natAbs ≤ A) (hb : ∀ k, k < n → (b k).natAbs ≤ B) :
    Calls Try.prog 62 #[.slice (some ⟨Ga, 0, none⟩) n n, .slice (some ⟨Gb, 0, none⟩) n n] w fun e w' => ∃ (gs : List Nat) (G : Nat), e = .returned (.slice (some ⟨G, 0, none⟩) n n) ∧ gs.length = n ∧ Ints w' w.heap.size G gs n (mulZ a b) ∧ Below w.heap.size w w' := by
  have hmk := make_ptrs n (by omega)
  have hnI : (n : Int) ≤ 4096 := by omega
  have HL := Lib.hid hL
  have HN := Lib.hid hn
  clear hL hn
  go_enter Try.func62, Try.ntmps62
  go_wp2_with fail
  obtain ⟨W1, hW1, hsz, c0, c1, c3, hI0, hb1⟩ := times_start w (.slice (some ⟨Ga, 0, none⟩) n n) (.slice (some ⟨Gb, 0, none⟩) n n) n
  rw [hW1]
  clear hW1
  obtain ⟨s, hs⟩ : ∃ s, w.heap.size = s := ⟨_, rfl⟩
  rw [hs] at hsz c0 c1 c3 hI0 hb1 ⊢
  have HB1 := Lib.hid hb1
  have HS := Lib.hid hs
  clear hb1 hs
  obtain ⟨B3, h3⟩ : ∃ B3, s + 1 + 1 + 1 = B3 := ⟨_, rfl⟩
  rw [h3] at c3 ⊢
  obtain ⟨O, h2⟩ : ∃ O, s + 1 + 1 = O := ⟨_, rfl⟩
  rw [h2] at c3 hI0 ⊢
  obtain ⟨B1, h1⟩ : ∃ B1, s + 1 = B1 := ⟨_, rfl⟩
  rw [h1] at c1 ⊢
  have HO := Lib.hid (show B1 = s + 1 ∧ O = s + 2 ∧ B3 = s + 3 by omega)
  clear h1 h2 h3
  have HNN := Lib.hid hI0.noNum
  have C0 := Lib.hid c0
  have C1 := Lib.hid c1
  have HSZ := Lib.hid hsz
  clear c0 c1 hsz
  go_loopw [15] (fun t15 wr => ∃ (i : Nat) (gs : List Nat), i ≤ n ∧ t15 = .int .i64 (i : Int) ∧ gs.length = i ∧ Ints wr s O gs n (fun _ => 0) ∧ (∀ g ∈ gs, s + 4 ≤ g) ∧ Ext (· = O) W1 wr) (fun t15 _ => n - (intOf t15).toNat)
  case atStart => exact ⟨0, [], by omega, rfl, rfl, hI0, by simp, Ext.refl _ _ (fun j hj _ => by subst hj; exact HNN.out)⟩
  case round =>
    obtain ⟨i, gs, hi, rfl, hgs, hints, hge, hext⟩ := hrel
    have HGE := Lib.hid hge
    have HGS := Lib.hid hgs
    have hextsz := Lib.hid hext.size
    clear hge hgs
    by_cases hlt : i < n
    · have hc3 := (cell_of_block (hext.block B3 (by rw [HSZ.out]; have := HO.out; omega) (by have := HO.out; show ¬ B3 = O; omega))).trans c3
      have hI1 : Ints (wr.alloc (.cells #[.bool false, .slice none 0 0] 84)) s O gs n (fun _ => 0) := hints.below ((Below.refl _ wr).alloc (Nat.le_refl _) _)
      have hG := hints.lt
      have hcG := hI1.empty (by rw [HGS.out]; exact hlt)
      rw [HGS.out] at hcG
      have hfG := hI1.free i
      have hszr := hext.size
      have hI2 := hI1.push (by rw [HGS.out]; exact hlt) (IntAt.fresh wr) (by have := HSZ.out; omega) (fun hm => by have := hints.old hm; omega) (by omega)
      rw [HGS.out] at hI2
      have hext2 : Ext (· = O) W1 ((wr.alloc (.cells #[.bool false, .slice none 0 0] 84)).setCell ⟨O, i, none⟩ (ptr wr.heap.size)) := by
        have h1 := hext.more ((Below.refl _ wr).alloc (Nat.le_refl _) (.cells #[.bool false, .slice none 0 0] 84))
        refine ⟨h1.os, h1.tape, h1.output, by simpa using h1.size, fun j hj hne => ?_, h1.num⟩
        rw [Below.heap_setCell _ _ _ j (by simpa using hne)]; exact h1.block j hj hne
      unfold ptr at hI2 hext2
      rw [World.setCell_alloc_past (hn := hG)] at hI2 hext2
      clear hints hI1 hext hszr
      go_wp2_with fail
      refine ⟨⟨i + 1, gs ++ [wr.heap.size], by omega, by go_num, by simp [HGS.out], hI2.congr (fun j _ => by simp), fun g hg => ?_, hext2⟩, by simp [intOf]; omega⟩
      rcases List.mem_append.1 hg with hg | hg
      · exact HGE.out g hg
      · obtain rfl : g = wr.heap.size := by simpa using hg
        have := hextsz.out
        have := HSZ.out
        omega
    · obtain rfl : n = i := by omega
      have hc0 := (cell_of_block (hext.block s (by rw [HSZ.out]; omega) (by have := HO.out; show ¬ s = O; omega))).trans C0.out
      clear hlt
      go_wp2_with fail
      go_loopw [26] (fun t26 wr => ∃ i : Nat, i ≤ n ∧ t26 = .int .i64 (i : Int) ∧ Ints wr s O gs n (convS a b i) ∧ Ext (· = O) W1 wr) (fun t26 _ => n - (intOf t26).toNat)
      case atStart => exact ⟨0, by omega, rfl, hints.congr (fun j _ => rfl), hext⟩
      case round =>
        clear hints hext hc0
        obtain ⟨i, hi, rfl, hints, hext⟩ := hrel
        by_cases hlt : i < n
        · go_wp2_with fail
          go_loopw [9] (fun t9 wi => ∃ k : Nat, i + k ≤ n ∧ t9 = .int .i64 (k : Int) ∧ Ints wi s O gs n (fun m => if m < i + k then convS a b (i + 1) m else convS a b i m) ∧ Ext (· = O) W1 wi) (fun t9 _ => n - (intOf t9).toNat)
          case atStart =>
            refine ⟨0, by omega, rfl, hints.congr (fun j _ => ?_), hext⟩
            by_cases hj : j < i + 0
            · rw [if_pos hj, convS_succ, if_neg (by omega)]; omega
            · rw [if_neg hj]
          case round =>
            clear hints hext
            obtain ⟨k, hk, rfl, hints, hext⟩ := hrel
            have hBel := ((Ext.of_below (HS.out ▸ HB1.out) : Ext Nix w W1).hidden hext (by rw [HS.out]; have := HO.out; omega)).below
            have hc0 := (cell_of_block (hext.block s (by rw [HSZ.out]; omega) (by have := HO.out; show ¬ s = O; omega))).trans C0.out
            have hc1 := (cell_of_block (hext.block B1 (by rw [HSZ.out]; have := HO.out; omega) (by have := HO.out; show ¬ B1 = O; omega))).trans C1.out
            have hc3 := (cell_of_block (hext.block B3 (by rw [HSZ.out]; have := HO.out; omega) (by have := HO.out; show ¬ B3 = O; omega))).trans c3
            have hA1 := hA.below hBel
            have hca := hA1.cell (i := i) (by omega)
            have hai := hA1.at_ i (by omega)
            unfold ptr at hca
            obtain ⟨ga, hga⟩ : ∃ ga, gsa.getD i 0 = ga := ⟨_, rfl⟩
            rw [hga] at hca hai
            clear hga hA1
            have HLA := Lib.hid (times_len hA0 hB0 HL.out (ha i hlt))
            by_cases hikn : i + k < n
            · obtain ⟨d, hd⟩ : ∃ d, i + k = d := ⟨_, rfl⟩
              have hdn : d < n := by omega
              have hdI : (d : Int) < (n : Int) := by omega
              have e1 : ((i : Int) + (k : Int)) = (d : Int) := by omega
              have hkn : k < n := by omega
              go_wp2_with fail
              refine (int_sign ga (a i) _ hai (by have := HLA.out; omega)).mono ?_
              rintro e w1 ⟨rfl, rfl⟩
              by_cases ha0 : a i = 0
              · have HZ := Lib.hid (show ∀ m, convS a b (i + 1) m = convS a b i m by intro m; rw [convS_succ, ha0]; simp)
                rw [show (a i).sign = 0 by rw [ha0]; rfl]
                clear ha0 hai
                go_wp2_with fail
                refine ⟨⟨i + 1, by omega, by go_num, hints.congr (fun j _ => ?_), hext⟩, by simp [intOf]; omega⟩
                rw [HZ.out j]; simp
              · obtain ⟨sg, hsg⟩ : ∃ sg, (a i).sign = sg := ⟨_, rfl⟩
                have hs : (sg == 0) = false := beq_eq_false_iff_ne.2 (fun e => ha0 (Int.sign_eq_zero_iff_zero.1 (by rw [hsg, e])))
                have hs2 : (sg != 0) = true := by rw [bne, hs]; rfl
                rw [hsg]
                clear ha0 hsg
                have hBb := hB.below hBel
                have hcb := hBb.cell (i := k) (by omega)
                have hbk := hBb.at_ k (by omega)
                unfold ptr at hcb
                obtain ⟨gb, hgb⟩ : ∃ gb, gsb.getD k 0 = gb := ⟨_, rfl⟩
                rw [hgb] at hcb hbk
                have hco := hints.cell (i := d) (by rw [HGS.out]; exact hdn)
                have hzo := hints.at_ d (by rw [HGS.out]; exact hdn)
                unfold ptr at hco
                obtain ⟨go, hgo⟩ : ∃ go, gs.getD d 0 = go := ⟨_, rfl⟩
                rw [hgo] at hco hzo
                have HGO := Lib.hid hgo
                have HGM := Lib.hid (show s + 4 ≤ go by
                  rw [← hgo, show gs.getD d 0 = gs[d]'(by rw [HGS.out]; exact hdn) by simp [HGS.out, hdn]]
                  exact HGE.out _ (List.getElem_mem _))
                simp only [if_neg (show ¬ d < i + k by omega)] at hzo
                have HLB := Lib.hid (times_len2 hA0 hB0 HL.out (hb k hkn))
                have HLZ := Lib.hid (times_len3 HL.out (show i ≤ n by omega) HN.out (convS_small ha hb hdn i (by omega)))
                have HD := Lib.hid hd
                clear hgb hgo hBb hd
                go_wp2_with fail
                refine (series_put i k d n B1 B3 s Ga Gb O ga gb go (a i) (b k) _ _ hc1 hc3 hc0 hcb hca hco hai hbk hzo HD.out hdn HN.out HLA.out HLB.out HLZ.out).mono ?_
                rintro e w2 ⟨rfl, hz2, he2⟩
                have hI2 := hints.write (k := d) (by rw [HGS.out]; exact hdn) (by rw [HGO.out]; exact he2) (by rw [HGO.out]; exact hz2)
                have hext2 := hext.hide he2 (by rw [HSZ.out]; exact HGM.out)
                have hkI : (k : Int) + 1 ≤ (n : Int) := by omega
                go_wp2_with fail
                refine ⟨⟨k + 1, by have := HD.out; omega, by go_num, hI2.congr (fun j _ => ?_), hext2⟩, by simp [intOf]; omega⟩
                have hd := HD.out
                by_cases hj : j = d
                · subst hj
                  rw [if_pos rfl, if_pos (by omega), convS_succ, if_pos (by omega), show j - i = k by omega]
                · rw [if_neg hj]
                  by_cases hj2 : j < i + k
                  · rw [if_pos hj2, if_pos (by omega)]
                  · rw [if_neg hj2, if_neg (by omega)]
            · have hkn : i + k = n := by omega
              have hkI : (i : Int) + (k : Int) = (n : Int) := by omega
              clear hca hai hikn
              go_wp2_with fail
              refine ⟨⟨i + 1, by omega, by go_num, hints.congr (fun j hj => ?_), hext⟩, by simp [intOf]; omega⟩
              rw [if_pos (by rw [HGS.out] at hj; omega)]
        · obtain rfl : n = i := by omega
          have hc3' := (cell_of_block (hext.block B3 (by rw [HSZ.out]; have := HO.out; omega) (by have := HO.out; show ¬ B3 = O; omega))).trans c3
          have hBel := ((Ext.of_below (HS.out ▸ HB1.out) : Ext Nix w W1).hidden hext (by rw [HS.out]; have := HO.out; omega)).below
          go_wp2_with fail
          go_ret
          rw [HS.out]
          exact ⟨gs, O, rfl, HGS.out, hints.congr (fun j hj => convS_past a b (by rw [HGS.out] at hj; omega)), HS.out ▸ hBel⟩
end Go.Proofs.Ytmnfokapdipcdaa
/- The package series: Within, Turned. -/
namespace Go.Proofs.Ytmnfokapdipcdaa
open Go.RowKit Go.Deep
theorem Ints.down {w : World} {base base' G : Nat} {gs : List Nat} {n : Nat} {z : Nat → Int} (h : Ints w base G gs n z) (hb : base' ≤ base) : Ints w base' G gs n z :=
  ⟨h.row, h.len, h.nodup, ⟨Nat.le_trans hb h.low.1, fun g hg => ⟨Nat.le_trans hb (h.low.2 g hg).1, (h.low.2 g hg).2⟩⟩, h.at_⟩
/-- What series.Within tells. -/
def withinR (xp xq : List Raw) (terms : Int) : List Raw × Int :=
  if mayE terms [xp, xq] ≠ 0 then ([], mayE terms [xp, xq]) else if noughtAt xq 0 then toldZ (hornZ (zAt xp) (zAt xq) (min xp.length terms.toNat) (min xp.length terms.toNat)) terms.toNat else ([], 340)
theorem lc_pow_le {k b L : Nat} (h : b * k < 64 * L) {X : Nat} (hX : X ≤ 2 ^ b) : lc (X ^ k) ≤ L := by
  rw [lc_le, W64_two, ← Nat.pow_mul]
  refine Nat.lt_of_le_of_lt (Nat.pow_le_pow_left hX k) ?_
  rw [← Nat.pow_mul]
  exact Nat.pow_lt_pow_right (by omega) h
theorem big_two (k : Nat) : 8192 * W64 ^ k = 2 ^ (13 + 64 * k) := by rw [W64_two, ← Nat.pow_mul, show (8192 : Nat) = 2 ^ 13 from rfl, ← Nat.pow_add]
theorem horn_lc {n k t : Nat} (hn : n ≤ 4096) (hk : k < n) (ht : t = 4096) : lc (4096 * ((8192 * W64 ^ t) ^ k * W64 ^ t)) ≤ 137438953472 := by
  have h1 : 4096 * ((8192 * W64 ^ t) ^ k * W64 ^ t) ≤ (8192 * W64 ^ t) ^ (k + 1) := by
    rw [Nat.pow_succ]
    generalize (8192 * W64 ^ t) ^ k = P
    generalize W64 ^ t = Q
    have : P * (8192 * Q) = 8192 * (P * Q) := by grind
    omega
  refine Nat.le_trans (lc_mono h1) (lc_pow_le (b := 13 + 64 * t) ?_ (Nat.le_of_eq (big_two t)))
  subst ht
  have : (13 + 64 * 4096) * (k + 1) ≤ (13 + 64 * 4096) * 4096 := Nat.mul_le_mul_left _ (by omega)
  omega
theorem horn_pos (t k : Nat) : 0 < (8192 * W64 ^ t) ^ k := Nat.pow_pos (Nat.mul_pos (by omega) (Nat.pow_pos W64_pos))
theorem horn_len {a b : Nat → Int} {n K t : Nat} (ht : t = 4096) (hn : n ≤ 4096) (hK : K ≤ n) (ha : ∀ k, (a k).natAbs ≤ W64 ^ t) (hb : ∀ k, (b k).natAbs ≤ W64 ^ t) (k : Nat) (hk : k < n) : (limbs (hornZ a b K (K - 0) k).natAbs).length ≤ 549755813888 := by
  have h1 := hornZ_small (K := K) hn (Nat.pow_pos W64_pos) ha hb (K - 0) k hk
  refine Nat.le_trans (lc_mono h1) (lc_pow_le (b := 13 + 64 * t) ?_ (Nat.le_of_eq (big_two t)))
  subst ht
  have h3 : (13 + 64 * 4096) * (K - 0) ≤ (13 + 64 * 4096) * 4096 := Nat.mul_le_mul_left _ (by omega)
  omega
set_option maxRecDepth 100000 in
theorem series_Within (Ap Aq : Option Addr) (lp cp lq cq : Nat) (xp xq : List Raw) (terms : Int) (w : World) (hp : Poly w w.heap.size Ap xp) (hq : Poly w w.heap.size Aq xq) (hlp : lp = xp.length) (hlq : lq = xq.length) (hcp : lp ≤ cp) (hcq : lq ≤ cq) :
    Calls Try.prog 23 #[.slice Ap lp cp, .slice Aq lq cq, .int .i64 terms] w fun e w' => ∃ v, e = .returned (.tuple #[v, .int .i64 (withinR xp xq terms).2]) ∧ Told w' w.heap.size v (withinR xp xq terms).1 ∧ Below w.heap.size w w' := by
  have HLP := Lib.hid hlp
  have HLQ := Lib.hid hlq
  have HCP := Lib.hid hcp
  have HCQ := Lib.hid hcq
  obtain ⟨E, hE⟩ : ∃ E, mayE terms [xp, xq] = E := ⟨_, rfl⟩
  have HM := Lib.hid hE
  obtain ⟨un, hun⟩ : ∃ un, noughtAt xq 0 = un := ⟨_, rfl⟩
  have HU := Lib.hid hun
  have HO := Lib.hid (show withinR xp xq terms = if E ≠ 0 then ([], E) else if un then toldZ (hornZ (zAt xp) (zAt xq) (min lp terms.toNat) (min lp terms.toNat)) terms.toNat else ([], 340) by rw [withinR, hE, hun, hlp])
  clear hlp hlq hcp hcq hE hun
  go_enter Try.func23, Try.ntmps23
  go_wp2_with fail
  have hps := Polys.two hp hq HLP.out HLQ.out HCP.out HCQ.out 22
  refine (series_may terms _ 2 2 [xp, xq] _ (by simpa using hps) rfl (by omega)).mono ?_
  rintro e w1 ⟨rfl, hb1⟩
  have hb1' : Below w.heap.size w w1 := ((Below.refl _ w).alloc (Nat.le_refl _) _).trans (hb1.mono (by simp))
  rw [HM.out]
  by_cases hE0 : E = 0
  · subst hE0
    obtain ⟨h0, h4, hr⟩ := mayE_zero HM.out
    obtain ⟨n, rfl⟩ : ∃ n : Nat, terms = (n : Int) := ⟨terms.toNat, by omega⟩
    have hp1 := (hp.below hb1').more hb1'.size
    have hq1 := (hq.below hb1').more hb1'.size
    have HSP := Lib.hid (right_len (hr xp (by simp))).2
    have HLE := Lib.hid (right_len (hr xp (by simp))).1
    have HSQ := Lib.hid (right_len (hr xq (by simp))).2
    clear hr
    go_wp2_with fail
    refine (series_nought 0 Aq lq cq xq w1 hq1 HLQ.out).mono ?_
    rintro e w2 ⟨rfl, rfl⟩
    rw [HU.out]
    cases un with
    | false =>
      have HE := Lib.hid (show withinR xp xq (n : Int) = ([], 340) by rw [HO.out]; rfl)
      clear HO
      go_wp2_with fail
      go_ret2
      rw [HE.out]
      exact ⟨_, rfl, Told.nil _ hb1'.size, hb1'⟩
    | true =>
      obtain ⟨K, hK⟩ : ∃ K, min lp n = K := ⟨_, rfl⟩
      have HO2 := Lib.hid (show withinR xp xq (n : Int) = toldZ (hornZ (zAt xp) (zAt xq) K K) n by rw [HO.out, Int.toNat_natCast, hK]; rfl)
      clear HO
      have HN := Lib.hid (show n ≤ 4096 by omega)
      go_wp2_with fail
      refine (series_value Ap lp cp n xp w1 hp1 HLP.out HN.out HSP.out).mono ?_
      rintro e w2 ⟨gs2, rfl, hl2, hI2, hb2⟩
      have HL2 := Lib.hid hl2
      clear hl2
      go_wp2_with fail
      refine (series_value Aq lq cq n xq w2 ((hq1.below hb2).more hb2.size) HLQ.out HN.out HSQ.out).mono ?_
      rintro e w3 ⟨gs3, rfl, hl3, hI3, hb3⟩
      have HL3 := Lib.hid hl3
      clear hl3
      have HA := Lib.hid (zAt_small HSP.out hp.small)
      have HB := Lib.hid (zAt_small HSQ.out hq.small)
      go_wp2_with fail
      refine (series_value none 0 0 n [] w3 (Poly.nil _ _ _) rfl HN.out (by simp)).mono ?_
      rintro e w4 ⟨gs4, rfl, hl4, hI4, hb4⟩
      have HL4 := Lib.hid hl4
      clear hl4
      have hsz3 : w.heap.size ≤ w3.heap.size := Nat.le_trans (Nat.le_trans hb1'.size hb2.size) hb3.size
      have hbel : Below w.heap.size w w4 := (((hb1'.trans (hb2.mono hb1'.size)).trans (hb3.mono (Nat.le_trans hb1'.size hb2.size)))).trans (hb4.mono hsz3)
      have hI2' := (hI2.below hb3).below hb4
      have hI3' := hI3.below hb4
      have hI4' := hI4.down hsz3
      have hnI : (n : Int) ≤ 4096 := by omega
      have hlI : (lp : Int) ≤ 4096 := by have := HLP.out; have := HLE.out; omega
      have hKn : (K : Int) ≤ (n : Int) := by omega
      have hmin : min (lp : Int) (n : Int) = (K : Int) := by omega
      generalize w3.heap.size = G4 at *
      go_wp2_with fail
      generalize w2.heap.size = Gq at *
      generalize w1.heap.size = Gp at *
      have HKK := Lib.hid (show K ≤ n by omega)
      go_loopg [11, 12] K (fun gk t11 t12 wr => ∃ (gs : List Nat) (G : Nat), gk ≤ K ∧ t12 = .int .i64 ((gk : Int) - 1) ∧ t11 = .slice (some ⟨G, 0, none⟩) n n ∧ gs.length = n ∧ Ints wr w.heap.size G gs n (hornZ (zAt xp) (zAt xq) K (K - gk)) ∧ Below w4.heap.size w4 wr)
      case atStart => exact ⟨gs4, G4, Nat.le_refl _, rfl, rfl, HL4.out, hI4'.congr (fun j _ => by rw [Nat.sub_self]; unfold zAt; simp [hornZ, signed]), Below.refl _ _⟩
      case round =>
        obtain ⟨gs, G, hgk, rfl, rfl, hgs, hints, hbr⟩ := hrel
        have HGS := Lib.hid hgs
        clear hgs
        by_cases h0k : gk = 0
        · subst h0k
          have hneg : ¬ (0 : Int) ≤ ((0 : Nat) : Int) - 1 := by omega
          have hbw : Below w.heap.size w wr := hbel.trans (hbr.mono hbel.size)
          have HLen := Lib.hid (show ∀ k, k < n → (limbs (hornZ (zAt xp) (zAt xq) K (K - 0) k).natAbs).length ≤ 549755813888 from fun k hk => by
            exact horn_len (t := 4096) rfl HN.out HKK.out HA.out HB.out k hk)
          go_wp2_with fail
          refine (series_told G n _ gs _ wr hints HGS.out HN.out HLen.out).mono ?_
          rintro e w5 ⟨v, rfl, ht, hb5⟩
          go_wp2_with fail
          go_ret2
          rw [HO2.out]
          exact ⟨v, rfl, ht.since hbw.size, hbw.trans (hb5.mono hbw.size)⟩
        · obtain ⟨q, rfl⟩ : ∃ q, gk = q + 1 := ⟨gk - 1, by omega⟩
          have hqI : ((q + 1 : Nat) : Int) - 1 = (q : Int) := by omega
          rw [hqI]
          obtain ⟨k, hkk⟩ : ∃ k, K - (q + 1) = k := ⟨_, rfl⟩
          rw [hkk] at hints
          have HK := Lib.hid hkk
          have hqn : q < n := by have := HKK.out; omega
          have HKn := Lib.hid (show k < n by have := HKK.out; omega)
          have HHS := Lib.hid (show ∀ m, m < n → (hornZ (zAt xp) (zAt xq) K k m).natAbs ≤ (8192 * W64 ^ 4096) ^ k from fun m hm => hornZ_small HN.out (Nat.pow_pos W64_pos) HA.out HB.out k m hm)
          have hIb := hI3'.below hbr
          have hLC := Lib.hid (horn_lc HN.out HKn.out rfl)
          have hP0 := Lib.hid (show 0 < (8192 * W64 ^ 4096) ^ k from horn_pos 4096 k)
          clear hkk h0k
          go_wp2_with fail
          refine (series_times G Gq _ _ n ((8192 * W64 ^ 4096) ^ k) (W64 ^ 4096) gs gs3 _ (zAt xq) wr hints HGS.out hIb HL3.out HN.out hP0.out (Nat.pow_pos W64_pos) hLC.out HHS.out (fun j _ => HB.out j)).mono ?_
          rintro e w5 ⟨gs5, G5, rfl, hl5, hI5, hb5⟩
          have hbr5 : Below w4.heap.size w4 w5 := hbr.trans (hb5.mono hbr.size)
          have hIa5 := hI2'.below hbr5
          have hca := hIa5.cell (i := q) (by rw [HL2.out]; exact hqn)
          have hai := hIa5.at_ q (by rw [HL2.out]; exact hqn)
          unfold ptr at hca
          obtain ⟨ga, hga⟩ : ∃ ga, gs2.getD q 0 = ga := ⟨_, rfl⟩
          rw [hga] at hca hai
          have h0n : 0 < gs5.length := by omega
          have hco := hI5.cell (i := 0) h0n
          have hoi := hI5.at_ 0 h0n
          unfold ptr at hco
          obtain ⟨go, hgo⟩ : ∃ go, gs5.getD 0 0 = go := ⟨_, rfl⟩
          rw [hgo] at hco hoi
          have HGO := Lib.hid hgo
          have HGM := Lib.hid (show w4.heap.size ≤ go by
            have h1 : go ∈ gs5 := by rw [← hgo, show gs5.getD 0 0 = gs5[0] by simp [h0n]]; exact List.getElem_mem _
            exact Nat.le_trans hbr.size (hI5.low.2 go h1).1)
          have HL5 := Lib.hid hl5
          have H0N := Lib.hid h0n
          have hn0 : (0 : Int) < (n : Int) := by omega
          have hqnI : (q : Int) < (n : Int) := by omega
          have r1 := later_cell hca
          have r2 := later_cell hco
          have HLM := Lib.hid (times_len3 hLC.out (Nat.le_refl n) HN.out (mulZ_small (m := 0) HHS.out (fun j _ => HB.out j) (by omega)))
          have HLA := Lib.hid (times_len2 hP0.out (Nat.pow_pos W64_pos) hLC.out (HA.out q))
          clear hga hgo hl5 h0n hca hco hIa5
          go_wp2_with fail
          refine wp_region_stages (fun w' => ∃ δ : Later Nix w5, w' = δ.world) [(false, 0), (false, 1), (false, 2), (false, 3), (false, 4), (false, 5), (false, 6), (false, 7), (false, 8), (false, 9)] 10 [.reads [_, _, _, _, _, _, _, _, _, _]] [_] (by kernel_rfl) (by kernel_rfl) rfl rfl ?_ ?_
          · exact ⟨⟨_, nix_drawn w5⟩, rfl⟩
          refine wpStages_reads ?_
          repeat (go_big_quiet_step (fail))
          refine wpQuiet_nil ?_
          refine wpStages_nil ?_
          go_wp2_with fail
          refine (int_add go go ga _ _ _ (w5.drewN 1) (hoi.drewN 1) (hoi.drewN 1) (hai.drewN 1) (by have := HLM.out; omega) (by have := HLA.out; omega)).mono ?_
          rintro e w6 ⟨rfl, hz6, he6⟩
          have hI6 := (hI5.below (below_drewN (Below.refl _ w5) 1)).write (k := 0) H0N.out (by rw [HGO.out]; exact he6) (by rw [HGO.out]; exact hz6)
          have hbr6 := (Ext.hidden (Ext.of_below (below_drewN hbr5 1) : Ext Nix w4 (w5.drewN 1)) he6 HGM.out).below
          have hszr := hbr.size
          have hszw := hbel.size
          go_wp2_with fail
          go_roundg q
          case measure => omega
          case rel =>
            refine ⟨gs5, G5, by omega, rfl, rfl, HL5.out, (hI6.down (by omega)).congr (fun j _ => ?_), hbr6⟩
            have hk := HK.out
            rw [show K - q = k + 1 by omega]
            show _ = mulZ (hornZ (zAt xp) (zAt xq) K k) (zAt xq) j + (if j = 0 then zAt xp (K - 1 - k) else 0)
            rw [show K - 1 - k = q by omega]
            by_cases hj : j = 0
            · subst hj; simp
            · rw [if_neg hj, if_neg hj]; omega
  · have HE := Lib.hid (show withinR xp xq terms = ([], E) by rw [HO.out, if_pos hE0])
    have tE : (E == 0) = false := beq_eq_false_iff_ne.2 hE0
    clear HO hE0
    go_wp2_with fail
    go_ret2
    rw [HE.out]
    exact ⟨_, rfl, Told.nil _ hb1'.size, hb1'⟩
end Go.Proofs.Ytmnfokapdipcdaa
