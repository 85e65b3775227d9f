import Derived.Test.YtmnfokapdipcdaaRoot5
/- The package root: what is refused. -/
namespace Go.Proofs.Ytmnfokapdipcdaa
open Go.RowKit Go.Deep
/-- The answer where a thing is refused. -/
def none2 : Value := .agg #[.bool false, .slice none 0 0]
set_option maxHeartbeats 1000000 in
set_option maxRecDepth 100000 in
theorem root_Of_bad (b : Bool) (A1 : Option Addr) (l1 c1 : Nat) (xs : List Nat) (n : Int) (w : World) (h1 : Lim w w.heap.size A1 xs) (hl : l1 = xs.length) (hbad : rightInt (b, xs) = false ∨ n < 1 ∨ (b = true ∧ n % 2 = 0)) (hn : n < 9223372036854775808) :
    Calls Try.prog 37 #[.agg #[.bool b, .slice A1 l1 c1], .int .i64 n] w fun e w' => e = .returned (.tuple #[none2, .int .i64 2]) ∧ Below w.heap.size w w' := by
  have H1 := Lib.hid (And.intro h1 hl)
  have HBAD := Lib.hid hbad
  have HN := Lib.hid hn
  clear h1 hl hbad hn
  go_enter Try.func37, Try.ntmps37
  go_wp2_with fail
  obtain ⟨W0, g, r, hW, hg, hr, hgr, bx, br, hbw, hsz⟩ := box_two w (.bool b) (.slice A1 l1 c1) (.bool false) (.slice none 0 0)
  have HGG := Lib.hid (show w.heap.size ≤ r by omega)
  have HBWS := Lib.hid (show Below w.heap.size w W0 from by rw [hg]; exact hbw)
  rw [hW, hr, hg]
  clear hW hr hg hgr hsz hbw
  refine (limb_right b A1 l1 c1 xs W0 (Nat.le_refl _) ((H1.out.1.below HBWS.out).more HBWS.out.size) H1.out.2).mono ?_
  rintro e w1 ⟨rfl, hb1⟩
  have bx1 := bx.below hb1 bx.lt
  have br1 := br.below hb1 br.lt
  have hbw1 := Lib.hid (HBWS.out.trans (hb1.mono HBWS.out.size))
  have a0 := bx1.cell0
  have a1 := bx1.cell1
  have c0 := br1.cell0
  have c1' := br1.cell1
  have f0 := br1.free 0
  have f1 := br1.free 1
  clear bx br hb1 HBWS
  by_cases hr : rightInt (b, xs) = false
  · rw [hr]
    clear hr HBAD
    go_wp2_with fail
    refine bodyPost_ret (v := .tuple #[.agg #[.bool false, (.slice none 0 0)], (.int .i64 2)]) (by
      rw [results_cell_tmp rfl]
      have hld := run_loadVar_row (P := Try.prog) _ r 36 36 #[.bool false, (.slice none 0 0)] (0, 0) _ br1.store Try.underlying36 rfl (by kernel_rfl)
      simp [asAddr, Result.andThen, hld]) rfl ?_
    exact ⟨rfl, store2_below hbw1.out HGG.out⟩
  · have hr2 : rightInt (b, xs) = true := by simpa using hr
    rw [hr2]
    by_cases hn1 : n < 1
    · clear hr hr2 HBAD
      go_wp2_with fail
      refine bodyPost_ret (v := .tuple #[.agg #[.bool false, (.slice none 0 0)], (.int .i64 2)]) (by
        rw [results_cell_tmp rfl]
        have hld := run_loadVar_row (P := Try.prog) _ r 36 36 #[.bool false, (.slice none 0 0)] (0, 0) _ br1.store Try.underlying36 rfl (by kernel_rfl)
        simp [asAddr, Result.andThen, hld]) rfl ?_
      exact ⟨rfl, store2_below hbw1.out HGG.out⟩
    · have hb : b = true ∧ n % 2 = 0 := by
        rcases HBAD.out with h | h | h
        · exact absurd h hr
        · exact absurd h hn1
        · exact h
      obtain ⟨rfl, hm⟩ := hb
      have hbit : bits BinOp.and IntKind.i64 n 1 = 0 := by
        have h := and_one_i64 n.toNat (by have := HN.out; omega)
        rw [Int.toNat_of_nonneg (by omega)] at h
        rw [h]
        omega
      clear hr hr2 HBAD hm
      go_wp2_with fail
      refine bodyPost_ret (v := .tuple #[.agg #[.bool false, (.slice none 0 0)], (.int .i64 2)]) (by
        rw [results_cell_tmp rfl]
        have hld := run_loadVar_row (P := Try.prog) _ r 36 36 #[.bool false, (.slice none 0 0)] (0, 0) _ br1.store Try.underlying36 rfl (by kernel_rfl)
        simp [asAddr, Result.andThen, hld]) rfl ?_
      exact ⟨rfl, store2_below hbw1.out HGG.out⟩
set_option maxHeartbeats 1000000 in
set_option maxRecDepth 100000 in
theorem root_Perfect_bad (b : Bool) (A1 : Option Addr) (l1 c1 : Nat) (xs : List Nat) (w : World) (h1 : Lim w w.heap.size A1 xs) (hl : l1 = xs.length) (hbad : rightInt (b, xs) = false) :
    Calls Try.prog 39 #[.agg #[.bool b, .slice A1 l1 c1]] w fun e w' => e = .returned (.tuple #[none2, .int .i64 0, .int .i64 2]) ∧ Below w.heap.size w w' := by
  have H1 := Lib.hid (And.intro h1 hl)
  have HBAD := Lib.hid hbad
  clear h1 hl hbad
  go_enter Try.func39, Try.ntmps39
  go_wp2_with fail
  obtain ⟨W0, g, r, hW, hg, hr, hgr, bx, br, hbw, hsz⟩ := box_two w (.bool b) (.slice A1 l1 c1) (.bool false) (.slice none 0 0)
  have HGG := Lib.hid (show w.heap.size ≤ r by omega)
  have HBWS := Lib.hid (show Below w.heap.size w W0 from by rw [hg]; exact hbw)
  rw [hW, hr, hg]
  clear hW hr hg hgr hsz hbw
  refine (limb_right b A1 l1 c1 xs W0 (Nat.le_refl _) ((H1.out.1.below HBWS.out).more HBWS.out.size) H1.out.2).mono ?_
  rintro e w1 ⟨rfl, hb1⟩
  have bx1 := bx.below hb1 bx.lt
  have br1 := br.below hb1 br.lt
  have hbw1 := Lib.hid (HBWS.out.trans (hb1.mono HBWS.out.size))
  have c0 := br1.cell0
  have c1' := br1.cell1
  have f0 := br1.free 0
  have f1 := br1.free 1
  clear bx br hb1 HBWS
  rw [HBAD.out]
  go_wp2_with fail
  refine bodyPost_ret (v := .tuple #[.agg #[.bool false, (.slice none 0 0)], (.int .i64 0), (.int .i64 2)]) (by
    rw [results_rec_two rfl]
    have hld := run_loadVar_row (P := Try.prog) _ r 36 36 #[.bool false, (.slice none 0 0)] (0, 0) _ br1.store Try.underlying36 rfl (by kernel_rfl)
    simp [asAddr, Result.andThen, hld]) rfl ?_
  exact ⟨rfl, store2_below hbw1.out HGG.out⟩
set_option maxHeartbeats 1000000 in
set_option maxRecDepth 100000 in
theorem root_Square_bad (b : Bool) (A1 : Option Addr) (l1 c1 : Nat) (xs : List Nat) (w : World) (h1 : Lim w w.heap.size A1 xs) (hl : l1 = xs.length) (hbad : rightInt (b, xs) = false ∨ b = true) :
    Calls Try.prog 34 #[.agg #[.bool b, .slice A1 l1 c1]] w fun e w' => e = .returned (.tuple #[none2, none2, .int .i64 2]) ∧ Below w.heap.size w w' := by
  have H1 := Lib.hid (And.intro h1 hl)
  have HBAD := Lib.hid hbad
  clear h1 hl hbad
  go_enter Try.func34, Try.ntmps34
  go_wp2_with fail
  obtain ⟨W0, g, h, r, hW, hg, hh, hr, hgr, bx, by_, br, hbw, hsz⟩ := box_three w (.bool b) (.slice A1 l1 c1) (.bool false) (.slice none 0 0) (.bool false) (.slice none 0 0)
  have HGG := Lib.hid (show w.heap.size ≤ h ∧ w.heap.size ≤ r ∧ h ≠ r by omega)
  have HBWS := Lib.hid (show Below w.heap.size w W0 from by rw [hg]; exact hbw)
  rw [hW, hr, hh, hg]
  clear hW hr hh hg hgr hsz hbw
  refine (limb_right b A1 l1 c1 xs W0 (Nat.le_refl _) ((H1.out.1.below HBWS.out).more HBWS.out.size) H1.out.2).mono ?_
  rintro e w1 ⟨rfl, hb1⟩
  have bx1 := bx.below hb1 bx.lt
  have by1 := by_.below hb1 by_.lt
  have br1 := br.below hb1 br.lt
  have hbw1 := Lib.hid (HBWS.out.trans (hb1.mono HBWS.out.size))
  have x0 := bx1.cell0
  have x1 := bx1.cell1
  have a0 := by1.cell0
  have a1 := by1.cell1
  have f0 := by1.free 0
  have f1 := by1.free 1
  have d0 := br1.cell0
  have d1 := br1.cell1
  have g0 := br1.free 0
  have g1 := br1.free 1
  have hne : ¬ h = r := HGG.out.2.2
  clear bx by_ br hb1 HBWS
  have bh := Box2.far (h := r) (a := .bool false) (b := .slice none 0 0) (by1.store (a := .bool false) (b := .slice none 0 0)) (fun e => hne e.symm)
  have brr := Box2.far (h := h) (a := .bool false) (b := .slice none 0 0) br1 hne
  rcases hr : rightInt (b, xs) with _ | _
  · clear hr HBAD
    go_wp2_with fail
    refine bodyPost_ret (v := .tuple #[.agg #[.bool false, (.slice none 0 0)], .agg #[.bool false, (.slice none 0 0)], (.int .i64 2)]) (by
      rw [results_rec2 rfl]
      have hld := run_loadVar_row (P := Try.prog) _ h 36 36 #[.bool false, (.slice none 0 0)] (0, 0) _ bh Try.underlying36 rfl (by kernel_rfl)
      have hld2 := run_loadVar_row (P := Try.prog) _ r 36 36 #[.bool false, (.slice none 0 0)] (0, 0) _ brr.store Try.underlying36 rfl (by kernel_rfl)
      simp [asAddr, Result.andThen, hld, hld2]) rfl ?_
    exact ⟨rfl, store2_below (store2_below hbw1.out HGG.out.1) HGG.out.2.1⟩
  · obtain rfl : b = true := by
      rcases HBAD.out with h | h
      · rw [hr] at h; exact absurd h (by decide)
      · exact h
    clear hr HBAD
    go_wp2_with fail
    refine bodyPost_ret (v := .tuple #[.agg #[.bool false, (.slice none 0 0)], .agg #[.bool false, (.slice none 0 0)], (.int .i64 2)]) (by
      rw [results_rec2 rfl]
      have hld := run_loadVar_row (P := Try.prog) _ h 36 36 #[.bool false, (.slice none 0 0)] (0, 0) _ bh Try.underlying36 rfl (by kernel_rfl)
      have hld2 := run_loadVar_row (P := Try.prog) _ r 36 36 #[.bool false, (.slice none 0 0)] (0, 0) _ brr.store Try.underlying36 rfl (by kernel_rfl)
      simp [asAddr, Result.andThen, hld, hld2]) rfl ?_
    exact ⟨rfl, store2_below (store2_below hbw1.out HGG.out.1) HGG.out.2.1⟩
end Go.Proofs.Ytmnfokapdipcdaa
