import Derived.Test.YtmnfokapdipcdaaRef6
/- The package rosetteref00: Top, Whole, TellInt. -/
namespace Go.Proofs.Ytmnfokapdipcdaa
open Go.RowKit Go.Deep
set_option maxRecDepth 100000 in
theorem ref_of (x : Nat) (w : World) (hx : x < W64) :
    Calls Try.prog 121 #[.int .u64 (x : Int)] w fun e w' => ∃ v, e = .returned v ∧ Own w' w.heap.size v (limbs x) ∧ Below w.heap.size w w' := by
  have HX := Lib.hid hx
  clear hx
  go_enter Try.func121, Try.ntmps121
  go_wp2_with fail
  have hb : Below w.heap.size w (w.alloc (.cells #[.int .u64 (x : Int)] 33)) := (Below.refl _ w).alloc (Nat.le_refl _) _
  have ho : Own (w.alloc (.cells #[.int .u64 (x : Int)] 33)) w.heap.size (.slice (some ⟨w.heap.size, 0, none⟩) 1 1) [x] :=
    ⟨Small.one HX.out, rfl, .inr ⟨w.heap.size, 1, _, rfl, Nat.le_refl _, heap_alloc_new w _, Nat.le_refl _, by simp only [maxLen]; omega, rfl, rfl⟩⟩
  obtain ⟨A, c, e, hc, hlim, _⟩ := ho.form
  injection e with e1 e2 e3
  subst e1 e3
  clear e2
  refine (ref_trim (some ⟨w.heap.size, 0, none⟩) 1 1 [x] _ hlim rfl (Nat.le_refl _) (by omega)).mono ?_
  rintro e w1 ⟨v, rfl, ho1, hb1⟩
  rw [show val [x] = x by simp [val]] at ho1
  go_wp2_with fail
  go_ret
  exact ⟨v, rfl, ho1.mono hb.size, hb.trans (hb1.mono hb.size)⟩
set_option maxHeartbeats 400000 in
set_option maxRecDepth 100000 in
theorem num_whole (n : Nat) (w : World) (hn : n < 4294967296) :
    Calls Try.prog 67 #[.int .i64 (n : Int)] w fun e w' => ∃ v', e = .returned v' ∧ NumAt w' v' (n : Int) ∧ Below w.heap.size w w' := by
  have HN := Lib.hid hn
  have hnI : (n : Int) < 4294967296 := by omega
  have hn0 : ¬ (n : Int) < 0 := by omega
  clear hn
  go_enter Try.func67, Try.ntmps67
  go_wp2_with fail
  have hb0 : Below w.heap.size w (w.alloc (.cells #[.bool false, .slice none 0 0, .int .i64 0] 79)) := (Below.refl _ w).alloc (Nat.le_refl _) _
  have hbx : Box3 (w.alloc (.cells #[.bool false, .slice none 0 0, .int .i64 0] 79)) w.heap.size 79 (.bool false) (.slice none 0 0) (.int .i64 0) := heap_alloc_new w _
  refine (ref_of n _ (by rw [W64_eq]; have := HN.out; omega)).mono ?_
  rintro e w1 ⟨v1, rfl, ho1, hb1⟩
  have hbF : Below w.heap.size w w1 := hb0.trans (hb1.mono hb0.size)
  have hbx1 := hbx.below hb1 hbx.lt
  have d0 := hbx1.cell0
  have d1 := hbx1.cell1
  have d2 := hbx1.cell2
  have f0 := hbx1.free
  obtain ⟨A1, c3, rfl, hc3, hlim3, _⟩ := ho1.form
  obtain ⟨m, hm⟩ : ∃ m, (limbs n).length = m := ⟨_, rfl⟩
  have HM := Lib.hid hm
  have HO := Lib.hid ho1
  rw [hm] at hc3 ⊢
  have HC3 := Lib.hid hc3
  obtain ⟨g, hg⟩ : ∃ g, w.heap.size = g := ⟨_, rfl⟩
  have HG := Lib.hid (show w.heap.size ≤ g by omega)
  rw [hg] at hbx1 d0 d1 d2 f0 ⊢
  clear hm ho1 hc3 hbx hg
  go_wp2_with fail
  have hst := hbx1.store (a := .bool false) (b := .slice A1 m c3) (c := .int .i64 0)
  refine bodyPost_ret (results_cell_row rfl _ _ g 79 #[.bool false, (.slice A1 m c3), .int .i64 0] (0, 0) _ (by rfl) hst Try.underlying79 rfl (by kernel_rfl)) rfl ?_
  have hbE := store3_below (a := .bool false) (b := .slice A1 m c3) (c := .int .i64 0) hbF HG.out
  refine ⟨_, rfl, ?_, by simpa using hbE⟩
  have hown2 := HO.out.store3 (a := .bool false) (b := .slice A1 m c3) (c := .int .i64 0) hbx1
  obtain ⟨A9, c9, e9, _, hlim9, _⟩ := hown2.form
  injection e9 with e91 e92 e93
  subst e91
  exact NumAt.of (b := false) HM.out.symm HC3.out hlim9 (by have h := hown2.mono (Nat.zero_le _); rwa [HM.out] at h)
set_option maxRecDepth 100000 in
theorem num_top (v : Value) (z : Int) (w : World) (h : NumAt w v z) (hl : (limbs z.natAbs).length ≤ 137438953472) :
    Calls Try.prog 145 #[v] w fun e w' => e = .returned (.int .i64 (nbits z.natAbs : Nat)) ∧ Below w.heap.size w w' := by
  obtain ⟨b, A, l, c, rfl, hlen, hc, hlim, hs, hown⟩ := h
  have HLEN := Lib.hid hlen
  have HC := Lib.hid hc
  have HL := Lib.hid hl
  clear hlen hc hl hs
  go_enter Try.func145, Try.ntmps145
  go_upto_region 1 with (fail)
  have hb0 : Below w.heap.size w (w.alloc (.cells #[.bool b, .slice A l c, .int .i64 0] 79)) := (Below.refl _ w).alloc (Nat.le_refl _) _
  have hbx : Box3 (w.alloc (.cells #[.bool b, .slice A l c, .int .i64 0] 79)) w.heap.size 79 (.bool b) (.slice A l c) (.int .i64 0) := heap_alloc_new w _
  have hlim0 := (hlim.below hb0).more hb0.size
  generalize w.heap.size = g at hbx ⊢
  generalize w.alloc (.cells #[.bool b, .slice A l c, .int .i64 0] 79) = W0 at hbx hb0 hlim0 ⊢
  have a1 := later_cell hbx.cell1
  have a2 := later_cell hbx.cell2
  go_wp2_with fail
  refine wp_region_stages (fun w' => ∃ δ : Later Nix W0, w' = δ.world) [(false, 0), (false, 1), (false, 2), (false, 3), (true, 4)] 5 [.reads [_, _, _, _], .loud _] [_, _] (by kernel_rfl) (by kernel_rfl) rfl rfl ?_ ?_
  · exact ⟨⟨_, nix_drawn W0⟩, rfl⟩
  refine wpStages_reads ?_
  repeat (go_big_quiet_step (fail))
  refine wpQuiet_nil ?_
  refine wpStages_loud rfl ?_
  intro K hK
  go_big_op
  refine (ref_bits A l c (limbs z.natAbs) (W0.drewN 1) (hlim0.drewN 1) HLEN.out HC.out (by have := HL.out; have := HLEN.out; omega)).mono ?_
  rintro e w1 ⟨rfl, hb1⟩
  rw [val_limbs]
  have he1 : Ext Nix W0 w1 := (nix_drawn W0).later (Ext.of_below hb1)
  obtain ⟨nb, hnb⟩ : ∃ nb : Nat, nbits z.natAbs = nb := ⟨_, rfl⟩
  have hnbI : (nb : Int) ≤ 8796093022208 := by
    have h1 := nbits_le_lc z.natAbs
    have h2 := HL.out
    unfold lc at h1
    omega
  rw [hnb]
  have HNB := Lib.hid hnb
  clear hnb a1 a2
  refine hK _ _ ⟨⟨w1, he1⟩, rfl⟩ ?_
  clear hK K
  refine wpStages_nil ?_
  go_wp2_with fail
  go_ret
  rw [HNB.out]
  exact ⟨by rfl, hb0.trans (he1.below.mono hb0.size)⟩
theorem box2_store {W : World} {g : Nat} {x y a b : Value} {t : TypeId} (h : W.heap[g]? = some (.cells #[x, y] t (0, 0))) : ((W.setCell ⟨g, 0, none⟩ a).setCell ⟨g, 1, none⟩ b).heap[g]? = some (.cells #[a, b] t (0, 0)) := by
  simp [World.setCell, Array.getElem?_modify, h]
set_option maxHeartbeats 400000 in
set_option maxRecDepth 100000 in
theorem num_tell (v : Value) (z : Int) (w : World) (h : NumAt w v z) (hl : (limbs z.natAbs).length ≤ 137438953472) :
    Calls Try.prog 110 #[v] w fun e w' => ∃ b A k c, e = .returned (.tuple #[.agg #[.bool b, .slice A k c], .bool (decide (nbits z.natAbs ≤ 262144))]) ∧ (nbits z.natAbs ≤ 262144 → b = decide (z < 0) ∧ Own w' w.heap.size (.slice A k c) (limbs z.natAbs)) ∧ Below w.heap.size w w' := by
  have NZ := h
  obtain ⟨b, A, l, c, rfl, hlen, hc, hlim, hs, hown⟩ := h
  have HLEN := Lib.hid hlen
  have HC := Lib.hid hc
  have HL := Lib.hid hl
  have HS := Lib.hid hs
  clear hlen hc hl hs
  go_enter Try.func110, Try.ntmps110
  go_upto_region 1 with (fail)
  have hbw : Below w.heap.size w ((w.alloc (.cells #[.bool b, .slice A l c, .int .i64 0] 79)).alloc (.cells #[.bool false, .slice none 0 0] 36)) := ((Below.refl _ w).alloc (Nat.le_refl _) _).alloc (by simp) _
  have bx : Box3 ((w.alloc (.cells #[.bool b, .slice A l c, .int .i64 0] 79)).alloc (.cells #[.bool false, .slice none 0 0] 36)) w.heap.size 79 (.bool b) (.slice A l c) (.int .i64 0) := by
    unfold Box3
    rw [Below.heap_alloc _ _ _ (by simp)]; exact heap_alloc_new w _
  have br : ((w.alloc (.cells #[.bool b, .slice A l c, .int .i64 0] 79)).alloc (.cells #[.bool false, .slice none 0 0] 36)).heap[w.heap.size + 1]? = some (.cells #[.bool false, .slice none 0 0] 36 (0, 0)) := by
    have h := heap_alloc_new (w.alloc (.cells #[.bool b, .slice A l c, .int .i64 0] 79)) (.cells #[.bool false, .slice none 0 0] 36)
    simpa using h
  obtain ⟨g, hg⟩ : ∃ g, w.heap.size = g := ⟨_, rfl⟩
  obtain ⟨r, hr⟩ : ∃ r, w.heap.size + 1 = r := ⟨_, rfl⟩
  rw [hr] at br ⊢
  rw [hg] at bx ⊢
  have HR := Lib.hid (show w.heap.size ≤ r by omega)
  have HGG := Lib.hid hg
  generalize (w.alloc (.cells #[.bool b, .slice A l c, .int .i64 0] 79)).alloc (.cells #[.bool false, .slice none 0 0] 36) = W0 at bx br hbw ⊢
  have HBW := Lib.hid (show Below w.heap.size w W0 from hbw)
  clear hg hr hbw
  have a0 := bx.cell0
  have a1 := bx.cell1
  have a2 := bx.cell2
  go_wp2_with fail
  refine (num_zero _ z W0 (NZ.below HBW.out) HL.out).mono ?_
  rintro e w1 ⟨rfl, hb1⟩
  have hbF : Below w.heap.size w w1 := HBW.out.trans (hb1.mono HBW.out.size)
  have brL : r < W0.heap.size := (Array.getElem?_eq_some_iff.1 br).1
  have br1 : w1.heap[r]? = some (.cells #[.bool false, .slice none 0 0] 36 (0, 0)) := by rw [hb1.block r brL]; exact br
  have bx1 := bx.below hb1 bx.lt
  have d0 : w1.cell? ⟨r, 0, none⟩ = some (.bool false) := by rw [cell_of_row w1 r 0 _ _ (0, 0) br1]; rfl
  have d1 : w1.cell? ⟨r, 1, none⟩ = some (.slice none 0 0) := by rw [cell_of_row w1 r 1 _ _ (0, 0) br1]; rfl
  have f0 : ∀ k, w1.frozen? ⟨r, k, none⟩ = false := fun k => by simp [World.frozen?, br1]
  by_cases hz : z = 0
  · rw [decide_eq_true hz]
    have HZ := Lib.hid hz
    clear hz
    go_wp2_with fail
    have hst := box2_store (a := .bool false) (b := .slice none 0 0) br1
    refine bodyPost_ret (v := .tuple #[.agg #[.bool false, (.slice none 0 0)], .bool true]) (by
      rw [results_cell_tmp rfl]
      have hld := run_loadVar_row (P := Try.prog) _ r 36 36 #[.bool false, (.slice none 0 0)] (0, 0) _ hst Try.underlying36 rfl (by kernel_rfl)
      simp [asAddr, Result.andThen, hld]) rfl ?_
    refine ⟨false, none, 0, 0, by rw [HZ.out]; rfl, fun _ => ⟨by rw [HZ.out]; rfl, by rw [HZ.out]; exact (show limbs (0 : Int).natAbs = [] by simp [limbs_zero]) ▸ Own.nil _ _⟩, (hbF.setCell (p := ⟨r, 0, none⟩) HR.out _).setCell (p := ⟨r, 1, none⟩) HR.out _⟩
  · rw [decide_eq_false hz]
    have HZ := Lib.hid hz
    clear hz
    have a0 := bx1.cell0
    have a1 := bx1.cell1
    have a2 := bx1.cell2
    go_wp2_with fail
    refine (num_top _ z w1 (NZ.below hbF) HL.out).mono ?_
    rintro e w2 ⟨rfl, hb2⟩
    have hbF2 : Below w.heap.size w w2 := hbF.trans (hb2.mono hbF.size)
    have br2 : w2.heap[r]? = some (.cells #[.bool false, .slice none 0 0] 36 (0, 0)) := by rw [hb2.block r (Array.getElem?_eq_some_iff.1 br1).1]; exact br1
    have bx2 := bx1.below hb2 bx1.lt
    have d0 : w2.cell? ⟨r, 0, none⟩ = some (.bool false) := by rw [cell_of_row w2 r 0 _ _ (0, 0) br2]; rfl
    have d1 : w2.cell? ⟨r, 1, none⟩ = some (.slice none 0 0) := by rw [cell_of_row w2 r 1 _ _ (0, 0) br2]; rfl
    have f0 : ∀ k, w2.frozen? ⟨r, k, none⟩ = false := fun k => by simp [World.frozen?, br2]
    obtain ⟨nb, hnb⟩ : ∃ nb : Nat, nbits z.natAbs = nb := ⟨_, rfl⟩
    rw [hnb]
    by_cases hlong : 262144 < nb
    · have hlI : (262144 : Int) < (nb : Int) := by omega
      have HD := Lib.hid (show decide (nbits z.natAbs ≤ 262144) = false ∧ ¬ nbits z.natAbs ≤ 262144 from ⟨decide_eq_false (by omega), by omega⟩)
      clear hlong hnb
      go_wp2_with fail
      have hst := box2_store (a := .bool false) (b := .slice none 0 0) br2
      refine bodyPost_ret (v := .tuple #[.agg #[.bool false, (.slice none 0 0)], .bool false]) (by
        rw [results_cell_tmp rfl]
        have hld := run_loadVar_row (P := Try.prog) _ r 36 36 #[.bool false, (.slice none 0 0)] (0, 0) _ hst Try.underlying36 rfl (by kernel_rfl)
        simp [asAddr, Result.andThen, hld]) rfl ?_
      exact ⟨false, none, 0, 0, by rw [HD.out.1], fun h => absurd h HD.out.2, (hbF2.setCell (p := ⟨r, 0, none⟩) HR.out _).setCell (p := ⟨r, 1, none⟩) HR.out _⟩
    · have hlI : (nb : Int) ≤ 262144 := by omega
      have HD := Lib.hid (show decide (nbits z.natAbs ≤ 262144) = true from decide_eq_true (by omega))
      have HB := Lib.hid (show b = decide (z < 0) by
        have h1 := HS.out
        have h2 := HZ.out
        cases b
        · have h1 : (z.natAbs : Int) = z := h1
          rw [decide_eq_false (by omega)]
        · have h1 : -(z.natAbs : Int) = z := h1
          rw [decide_eq_true (by omega)])
      clear hlong hnb
      have r0 := later_cell bx2.cell0
      have r1 := later_cell bx2.cell1
      have r2 := later_cell bx2.cell2
      have hlim2 := (hlim.below hbF2).more hbF2.size
      clear a0 a1 a2 d0 d1 f0
      go_wp2_with fail
      refine wp_region_stages (fun w' => ∃ δ : Later Nix w2, w' = δ.world) [(false, 0), (false, 1), (false, 2), (false, 3), (false, 4), (false, 5), (true, 6)] 7 [.reads [_, _, _, _, _, _], .loud _] [_, _, _] (by kernel_rfl) (by kernel_rfl) rfl rfl ?_ ?_
      · exact ⟨⟨_, nix_drawn w2⟩, rfl⟩
      refine wpStages_reads ?_
      repeat (go_big_quiet_step (fail))
      refine wpQuiet_nil ?_
      refine wpStages_loud rfl ?_
      intro K hK
      go_big_op
      have hup := ref_up A l c 0 (limbs z.natAbs) (w2.drewN 1) (hlim2.drewN 1) HLEN.out (by have := HL.out; have := HLEN.out; omega) (by omega)
      rw [val_limbs, Nat.pow_zero, Nat.mul_one, show ((0 : Nat) : Int) = 0 from rfl] at hup
      refine hup.mono ?_
      rintro e w3 ⟨v3, rfl, ho3, hb3⟩
      have he3 : Ext Nix w2 w3 := (nix_drawn w2).later (Ext.of_below hb3)
      have hbF3 : Below w.heap.size w w3 := hbF2.trans (he3.below.mono hbF2.size)
      have br3 : w3.heap[r]? = some (.cells #[.bool false, .slice none 0 0] 36 (0, 0)) := by rw [he3.below.block r (Array.getElem?_eq_some_iff.1 br2).1]; exact br2
      have d0 : w3.cell? ⟨r, 0, none⟩ = some (.bool false) := by rw [cell_of_row w3 r 0 _ _ (0, 0) br3]; rfl
      have d1 : w3.cell? ⟨r, 1, none⟩ = some (.slice none 0 0) := by rw [cell_of_row w3 r 1 _ _ (0, 0) br3]; rfl
      have f0 : ∀ k, w3.frozen? ⟨r, k, none⟩ = false := fun k => by simp [World.frozen?, br3]
      refine hK _ _ ⟨⟨w3, he3⟩, rfl⟩ ?_
      clear hK K r0 r1 r2
      refine wpStages_nil ?_
      obtain ⟨A3, k3, c3, rfl⟩ := ho3.slice
      have HO := Lib.hid ho3
      clear ho3
      go_wp2_with fail
      have hst := box2_store (a := .bool b) (b := .slice A3 k3 c3) br3
      refine bodyPost_ret (v := .tuple #[.agg #[.bool b, (.slice A3 k3 c3)], .bool true]) (by
        rw [results_cell_tmp rfl]
        have hld := run_loadVar_row (P := Try.prog) _ r 36 36 #[.bool b, (.slice A3 k3 c3)] (0, 0) _ hst Try.underlying36 rfl (by kernel_rfl)
        simp [asAddr, Result.andThen, hld]) rfl ?_
      refine ⟨b, A3, k3, c3, by rw [HD.out], fun _ => ⟨HB.out, ?_⟩, (hbF3.setCell (p := ⟨r, 0, none⟩) HR.out _).setCell (p := ⟨r, 1, none⟩) HR.out _⟩
      have hne : ∀ k, (Value.slice A3 k3 c3).ownBlock = some k → k ≠ r := by
        intro k hk e
        subst e
        obtain ⟨cs, hcs⟩ := HO.out.type hk
        rw [hcs] at br3
        simp at br3
      exact ((HO.out.mono hbF2.size).far ⟨r, 0, none⟩ _ hne).far ⟨r, 1, none⟩ _ hne
end Go.Proofs.Ytmnfokapdipcdaa
