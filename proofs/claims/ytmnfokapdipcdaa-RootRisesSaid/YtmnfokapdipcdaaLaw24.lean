import Derived.Test.YtmnfokapdipcdaaApp
import Derived.Test.YtmnfokapdipcdaaSer8
/- The laws of layer 24: their small functions. -/
namespace Go.Proofs.Ytmnfokapdipcdaa
open Go.RowKit Go.Deep
set_option maxRecDepth 100000 in
theorem law_is (A1 A2 : Option Addr) (l1 l2 c1 c2 : Nat) (x y : Int) (xs ys : List Raw) (w : World) (h1 : Poly w w.heap.size A1 xs) (h2 : Poly w w.heap.size A2 ys) (e1 : l1 = xs.length) (e2 : l2 = ys.length) (hl : (l1 : Int) ≤ 1099511627776) (hs : ∀ x ∈ xs, x.2.length ≤ 1099511627776) :
    Calls Try.prog 22 #[.slice A1 l1 c1, .int .i64 x, .slice A2 l2 c2, .int .i64 y] w fun e w' => e = .returned (.bool (decide (x = y) && decide (xs = ys))) ∧ Below w.heap.size w w' := by
  have E1 := Lib.hid e1
  have E2 := Lib.hid e2
  have HL := Lib.hid hl
  have HS := Lib.hid hs
  clear e1 e2 hl hs
  by_cases hxy : x = y
  · subst hxy
    have HE := Lib.hid (show (decide (x = x) && decide (xs = ys)) = decide (xs = ys) by simp)
    go_enter Try.func22, Try.ntmps22
    go_wp2_with fail
    refine (kit_wholes A1 A2 l1 l2 c1 c2 xs ys w h1 h2 E1.out E2.out HL.out HS.out).mono ?_
    rintro e w2 ⟨rfl, hb⟩
    go_wp2_with fail
    go_ret
    exact ⟨by rw [HE.out]; rfl, hb⟩
  · have HE := Lib.hid (show (decide (x = y) && decide (xs = ys)) = false by simp [hxy])
    have t1 : (x == y) = false := beq_eq_false_iff_ne.2 hxy
    clear hxy
    go_enter Try.func22, Try.ntmps22
    go_wp2_with fail
    go_ret
    exact ⟨by rw [HE.out]; rfl, Below.refl _ _⟩
/-- Is there too much to be looked at? -/
def greatP (xs : List Raw) (terms most : Int) : Bool := decide (40 < xs.length) || (decide (most < terms) && decide (terms ≤ 4096)) || xs.any (fun x => decide (4 < x.2.length))
theorem any_false_succ {xs : List Raw} {k : Nat} (hk : k < xs.length) (h : (xs.take k).any (fun x => decide (4 < x.2.length)) = false) (h2 : ¬ 4 < (xs.getD k (false, [])).2.length) : (xs.take (k + 1)).any (fun x => decide (4 < x.2.length)) = false := by
  rw [List.take_succ_eq_append_getElem hk, List.any_append, h]
  have e : xs.getD k (false, []) = xs[k] := by simp [hk]
  rw [e] at h2
  simp [h2]
theorem any_true_of {xs : List Raw} {k : Nat} (hk : k < xs.length) (h2 : 4 < (xs.getD k (false, [])).2.length) : xs.any (fun x => decide (4 < x.2.length)) = true := by
  rw [List.any_eq_true]
  exact ⟨_, getD_raw_mem hk, decide_eq_true h2⟩
set_option maxRecDepth 100000 in
theorem law_great (A : Option Addr) (l c : Nat) (terms most : Int) (xs : List Raw) (w : World) {B : Nat} (h1 : Poly w B A xs) (e1 : l = xs.length) :
    Calls Try.prog 16 #[.slice A l c, .int .i64 terms, .int .i64 most] w fun e w' => e = .returned (.bool (greatP xs terms most)) ∧ w = w' := by
  by_cases h40 : 40 < l
  · have HE := Lib.hid (show greatP xs terms most = true by unfold greatP; rw [decide_eq_true (by omega)]; rfl)
    have t1 : (40 : Int) < (l : Int) := by omega
    clear h40 e1
    go_enter Try.func16, Try.ntmps16
    go_wp2_with fail
    go_ret
    exact ⟨by rw [HE.out]; rfl, rfl⟩
  · have t1 : (l : Int) ≤ 40 := by omega
    have d40 := Lib.hid (show decide (40 < xs.length) = false from decide_eq_false (by omega))
    have E1 := Lib.hid e1
    clear h40 e1
    by_cases hm : most < terms ∧ terms ≤ 4096
    · obtain ⟨hm1, hm2⟩ := hm
      have HE := Lib.hid (show greatP xs terms most = true by unfold greatP; rw [decide_eq_true hm1, decide_eq_true hm2]; simp)
      go_enter Try.func16, Try.ntmps16
      go_wp2_with fail
      go_ret
      exact ⟨by rw [HE.out]; rfl, rfl⟩
    · have HE0 := Lib.hid (show greatP xs terms most = xs.any (fun x => decide (4 < x.2.length)) by
        unfold greatP
        rw [d40.out]
        have : (decide (most < terms) && decide (terms ≤ 4096)) = false := by
          rw [Bool.eq_false_iff]; intro h; simp at h; exact hm h
        rw [this]; rfl)
      have hm' : terms ≤ most ∨ (most < terms ∧ 4096 < terms) := by omega
      clear hm
      rcases hm' with hm | ⟨hm, hm2⟩
      all_goals
        go_enter Try.func16, Try.ntmps16
        go_wp2_with fail
        go_loopw [7] (fun t7 wr => ∃ k : Nat, k ≤ l ∧ t7 = .int .i64 (k : Int) ∧ (xs.take k).any (fun x => decide (4 < x.2.length)) = false ∧ w = wr) (fun t7 _ => l - (intOf t7).toNat)
        case atStart => exact ⟨0, by omega, rfl, by simp, rfl⟩
        case round =>
          obtain ⟨k, hk, rfl, htk, rfl⟩ := hrel
          have HT := Lib.hid htk
          clear htk
          by_cases hlt : k < l
          · have K1 := Lib.hid (show k < xs.length by rw [← E1.out]; exact hlt)
            obtain ⟨ad, Am, q, d, rfl, _, hc0, hc1, hlm, hcm, _⟩ := h1.at_ K1.out
            have hkI : (k : Int) < (l : Int) := by omega
            by_cases h4 : 4 < q
            · have HE := Lib.hid (any_true_of K1.out (by rw [← hlm]; exact h4))
              have h4I : (4 : Int) < (q : Int) := by omega
              clear hc0 hlm h4
              go_wp2_with fail
              go_ret
              exact ⟨by rw [HE0.out, HE.out]; rfl, rfl⟩
            · have HN := Lib.hid (any_false_succ K1.out HT.out (by rw [← hlm]; exact h4))
              have h4I : (q : Int) ≤ 4 := by omega
              clear hc0 hlm h4
              go_wp2_with fail
              exact ⟨⟨k + 1, by omega, by go_num, HN.out, by trivial⟩, by simp [intOf]; omega⟩
          · obtain rfl : k = l := by omega
            have HE := Lib.hid (show xs.any (fun x => decide (4 < x.2.length)) = false by
              have h := HT.out
              rwa [List.take_of_length_le (by rw [← E1.out]; exact Nat.le_refl _)] at h)
            go_wp2_with fail
            go_ret
            exact ⟨by rw [HE0.out, HE.out]; rfl, rfl⟩
theorem rawOf_zero : rawOf 0 = (false, []) := by unfold rawOf; simp [limbs_zero]
theorem rawOf_small {x : Int} (h0 : x ≠ 0) (h : x.natAbs < W64) : rawOf x = (decide (x < 0), [x.natAbs]) := by
  unfold rawOf; rw [limbs_of_small h (by omega)]
theorem Own.lit (W : World) (x : Nat) (hx : x < W64) : Own (W.alloc (.cells #[.int .u64 (x : Int)] 33)) W.heap.size (.slice (some ⟨W.heap.size, 0, none⟩) 1 1) [x] :=
  ⟨Small.one hx, rfl, .inr ⟨W.heap.size, 1, _, rfl, Nat.le_refl _, heap_alloc_new W _, Nat.le_refl _, by simp only [maxLen]; omega, rfl, rfl⟩⟩
set_option maxRecDepth 100000 in
theorem law_of (A : Option Addr) (m c : Nat) (l : List Int) (w : World) (h1 : Nums w w.heap.size A l) (e1 : m = l.length) (hm : (m : Int) ≤ 10000) (hs : ∀ k, k < l.length → -4611686018427387904 < l.getD k 0 ∧ l.getD k 0 < 4611686018427387904) :
    Calls Try.prog 27 #[.slice A m c] w fun e w' => ∃ v, e = .returned v ∧ Told w' w.heap.size v (l.map rawOf) ∧ Below w.heap.size w w' := by
  have E1 := Lib.hid e1
  have HS := Lib.hid hs
  clear e1 hs
  go_enter Try.func27, Try.ntmps27
  go_wp2_with fail
  go_loopg [3, 4] m (fun gk t3 t4 wr => ∃ (k : Nat), k + gk = m ∧ t4 = .int .i64 (k : Int) ∧ Told wr w.heap.size t3 ((l.take k).map rawOf) ∧ Below w.heap.size w wr)
  case atStart => exact ⟨0, by omega, rfl, Told.nil _ (Nat.le_refl _), Below.refl _ _⟩
  case round =>
    obtain ⟨k, hk, rfl, htold, hbel⟩ := hrel
    by_cases hlt : k < m
    · have K1 := Lib.hid (show k < l.length by rw [← E1.out]; exact hlt)
      obtain ⟨ad, rfl, _, hc⟩ := (h1.below hbel).at_ K1.out
      obtain ⟨x, hx⟩ : ∃ x, l.getD k 0 = x := ⟨_, rfl⟩
      have hxs := HS.out k K1.out
      rw [hx] at hc hxs
      have HX := Lib.hid hxs
      have hkI : (k : Int) < (m : Int) := by omega
      have hb0 : Below wr.heap.size wr (wr.alloc (.cells #[.bool false, .slice none 0 0] 36)) := (Below.refl _ wr).alloc (Nat.le_refl _) _
      have hc := (hb0.cell (p := ad.add k) (by rw [block_of_add]; have := hbel.size; omega)).trans hc
      have hbel0 := hbel.trans (hb0.mono hbel.size)
      obtain ⟨lr, top, hrec, hll, htop⟩ := htold
      have htop0 : top ≤ (wr.alloc (.cells #[.bool false, .slice none 0 0] 36)).heap.size := by simp; omega
      have hrec := hrec.below (hb0.mono htop)
      have HLL := Lib.hid hll
      have c0 : (wr.alloc (.cells #[.bool false, .slice none 0 0] 36)).cell? ⟨wr.heap.size, 0, none⟩ = some (.bool false) := by rw [cell_of_row _ _ _ _ _ (0, 0) (heap_alloc_new wr _)]; rfl
      have c1 : (wr.alloc (.cells #[.bool false, .slice none 0 0] 36)).cell? ⟨wr.heap.size, 1, none⟩ = some (.slice none 0 0) := by rw [cell_of_row _ _ _ _ _ (0, 0) (heap_alloc_new wr _)]; rfl
      have f0 : ∀ j, (wr.alloc (.cells #[.bool false, .slice none 0 0] 36)).frozen? ⟨wr.heap.size, j, none⟩ = false := fun j => by
        have h := heap_alloc_new wr (.cells #[.bool false, .slice none 0 0] 36)
        unfold World.frozen?
        rw [h]
        simp
      have HTS := Lib.hid (show (l.take (k + 1)).map rawOf = (l.take k).map rawOf ++ [rawOf x] by rw [List.take_succ_eq_append_getElem K1.out, List.map_append, ← hx]; simp [K1.out])
      have HLR := Lib.hid (show lr.length ≤ 1000000 by rw [hll, List.length_map, List.length_take]; omega)
      have HTB := Lib.hid htop
      have HK := Lib.hid hk
      clear hx hll hxs htop hk
      obtain ⟨xk, hxk⟩ : ∃ xk, (l.take k).map rawOf = xk := ⟨_, rfl⟩
      rw [hxk] at hrec HLL HTS
      clear hxk
      go_upto_region 6 with (fail)
      have hB0w := hbel.size
      have hB0 : wr.heap.size < (wr.alloc (.cells #[.bool false, .slice none 0 0] 36)).heap.size := by simp
      generalize wr.heap.size = B0 at c0 c1 f0 HTB hB0 hB0w ⊢
      generalize wr.alloc (.cells #[.bool false, .slice none 0 0] 36) = W0 at *
      go_upto_if 17 with (fail)
      go_cut [] (fun wx => ∃ (u : Value) (ys : List Nat), wx.cell? ⟨B0, 0, none⟩ = some (.bool (decide (x < 0))) ∧ wx.cell? ⟨B0, 1, none⟩ = some u ∧ rawOf x = (decide (x < 0), ys) ∧ Recs wx w.heap.size top u3 lr xk ∧ Own wx top u ys ∧ top ≤ wx.heap.size ∧ Below w.heap.size w wx)
      case first =>
        by_cases h0 : x = 0
        · subst h0
          go_wp2_with fail
          go_meet
          exact ⟨.slice none 0 0, [], c0, c1, rawOf_zero, hrec, Own.nil _ _, htop0, hbel0⟩
        · have t0 : (x == 0) = false := beq_eq_false_iff_ne.2 h0
          have t1 : (x != 0) = true := by rw [bne, t0]; rfl
          obtain ⟨y, hy⟩ : ∃ y, x.natAbs = y := ⟨_, rfl⟩
          have hmx : max x (-x) = (y : Int) := by omega
          have HY := Lib.hid (show (y : Int) < 4611686018427387904 by have := HX.out; omega)
          have HW := Lib.hid (show y < W64 by have := HY.out; rw [W64_eq]; omega)
          have HR := Lib.hid (show rawOf x = (decide (x < 0), [y]) by have := HX.out; rw [rawOf_small h0 (by rw [W64_eq]; omega), hy])
          have r1 := later_cell hc
          rw [t1]
          clear h0 hy t0 t1
          go_wp2_with fail
          have hxs := HX.out
          have hyI := HY.out
          refine wp_region_stages (fun w' => ∃ δ : Later Nix W0, w' = δ.world) [(false, 0), (false, 1), (false, 2), (false, 3), (false, 4), (false, 5), (false, 6), (false, 7), (false, 8), (false, 9), (false, 10), (false, 11), (false, 12), (false, 13), (true, 14), (false, 15), (true, 16)] 17 [.reads [_, _, _, _, _, _, _, _, _, _, _, _, _, _], .loud _, .reads [_], .loud _] [_, _] (by kernel_rfl) (by kernel_rfl) rfl rfl ?_ ?_
          · exact ⟨⟨_, nix_drawn W0⟩, rfl⟩
          refine wpStages_reads ?_
          repeat (go_big_quiet_step (fail))
          refine wpQuiet_nil ?_
          refine wpStages_loud rfl ?_
          intro K hK
          go_big_op
          refine hK _ _ ⟨⟨_, nix_drawn W0⟩, rfl⟩ ?_
          clear hK K
          refine wpStages_reads ?_
          repeat (go_big_quiet_step (fail))
          refine wpQuiet_nil ?_
          refine wpStages_loud rfl ?_
          intro K hK
          go_big_op
          have hA : Ext Nix W0 ((W0.drewN 1).alloc (.cells #[.int .u64 (y : Int)] 33)) := (nix_drawn W0).later (Ext.of_below ((Below.refl _ _).alloc (Nat.le_refl _) _))
          refine hK _ _ ⟨⟨_, hA⟩, rfl⟩ ?_
          clear hK K
          have cc0 : ((W0.drewN 1).alloc (.cells #[.int .u64 (y : Int)] 33)).cell? ⟨B0, 0, none⟩ = some (.bool false) := later_cell c0 ⟨_, hA⟩
          have cc1 : ((W0.drewN 1).alloc (.cells #[.int .u64 (y : Int)] 33)).cell? ⟨B0, 1, none⟩ = some (.slice none 0 0) := later_cell c1 ⟨_, hA⟩
          have ff0 : ∀ j, ((W0.drewN 1).alloc (.cells #[.int .u64 (y : Int)] 33)).frozen? ⟨B0, j, none⟩ = false := fun j => by
            rw [World.frozen?_of_block (w := W0) (Below.heap_alloc (W0.drewN 1) _ B0 (by simpa using hB0))]
            exact f0 j
          have hlit : Own ((W0.drewN 1).alloc (.cells #[.int .u64 (y : Int)] 33)) top (.slice (some ⟨W0.heap.size, 0, none⟩) 1 1) [y] := (Own.lit (W0.drewN 1) y HW.out).mono (by simpa using htop0)
          have hbA := hA.below
          obtain ⟨b, hb⟩ : ∃ b, decide (x < 0) = b := ⟨_, rfl⟩
          rw [hb]
          have HBB := Lib.hid hb
          generalize (W0.drewN 1).alloc (.cells #[.int .u64 (y : Int)] 33) = W2 at *
          have hB02 : B0 < W0.heap.size := hB0
          generalize W0.heap.size = B2 at hlit hB02 ⊢
          clear hyI hxs hmx hc r1 hA hb f0 c0 c1
          refine wpStages_nil ?_
          go_wp2_with fail
          go_meet
          obtain ⟨u, hu⟩ : ∃ u, Value.slice (some ⟨B2, 0, none⟩) 1 1 = u := ⟨_, rfl⟩
          rw [hu] at hlit ⊢
          have hne : (⟨B0, 0, none⟩ : Addr) ≠ ⟨B0, 1, none⟩ := by simp
          have d0 : (W2.setCell ⟨B0, 0, none⟩ (.bool b)).cell? ⟨B0, 1, none⟩ = some (.slice none 0 0) := by rw [World.cell?_setCell_other _ _ _ _ hne]; exact cc1
          have hbB : Below B0 W2 ((W2.setCell ⟨B0, 0, none⟩ (.bool b)).setCell ⟨B0, 1, none⟩ u) := ((Below.refl B0 W2).setCell (p := ⟨B0, 0, none⟩) (Nat.le_refl B0) _).setCell (p := ⟨B0, 1, none⟩) (Nat.le_refl B0) _
          have hlit2 : Own ((W2.setCell ⟨B0, 0, none⟩ (.bool b)).setCell ⟨B0, 1, none⟩ u) top u [y] := by
            refine (hlit.far _ _ (fun g hg => ?_)).far _ _ (fun g hg => ?_) <;>
            · rw [← hu] at hg
              simp only [Value.ownBlock, Option.some.injEq] at hg
              show g ≠ B0
              omega
          exact ⟨u, [y], by rw [World.cell?_setCell_other _ _ _ _ hne.symm, World.cell?_setCell_same _ _ _ cc0, HBB.out], World.cell?_setCell_same _ _ _ d0, HR.out, (hrec.below (hbA.mono htop0)).below (hbB.mono HTB.out), hlit2, by simp; have := hbA.size; omega, hbel0.trans ((hbA.mono hbel0.size).trans (hbB.mono hB0w))⟩
      case rest =>
        obtain ⟨u, ys, d0, d1, hraw, hrec1, hown1, htop1, hbel1⟩ := hcut
        have HRW := Lib.hid hraw
        obtain ⟨b, hb⟩ : ∃ b, decide (x < 0) = b := ⟨_, rfl⟩
        rw [hb] at d0 hraw
        clear hraw
        have HB := Lib.hid hb
        clear hb c0 c1 f0 hc hrec
        obtain ⟨Au, lu, cu, rfl⟩ := hown1.slice
        go_wp2_with (at_builtin; refine append_rec (w0 := w) w.heap.size top rfl _ _ rfl _ lr xk b (.slice Au lu cu) ys (by rfl) (by rfl) hrec1 HLL.out hown1 htop1 hbel1 HLR.out ?_)
        intro v1 w1 l1 hr1 hl1 hb1 _
        rw [← HB.out, ← HRW.out, ← HTS.out] at hr1
        have hl1 : l1.length = ((l.take (k + 1)).map rawOf).length := by rw [HTS.out, hl1]; simp
        have hk := HK.out
        go_wp2_with fail
        go_roundg (gk - 1)
        case measure => omega
        case rel => exact ⟨k + 1, by omega, by go_num, ⟨l1, _, hr1, hl1, Nat.le_refl _⟩, hb1⟩
    · obtain rfl : k = m := by omega
      have HE := Lib.hid (show l.take k = l from List.take_of_length_le (by rw [← E1.out]; exact Nat.le_refl _))
      rw [HE.out] at htold
      go_wp2_with fail
      go_ret
      exact ⟨_, rfl, htold, hbel⟩
end Go.Proofs.Ytmnfokapdipcdaa
