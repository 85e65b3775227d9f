import Derived.Test.YtonbhpadoplpkaaDiv4
import Derived.Test.YtonbhpadoplpkaaStay
/- The package divide: wrong, Trunc, Floor, Exact, Mod. -/
namespace Go.Proofs.Ytonbhpadoplpkaa
open Go.RowKit Go.Deep
theorem boxH4 (w : World) (x y x' y' x2 y2 x3 y3 : Value) : ∃ W g h r q, (((w.alloc (.cells #[x, y] 24)).alloc (.cells #[x', y'] 24)).alloc (.cells #[x2, y2] 24)).alloc (.cells #[x3, y3] 24) = W ∧ w.heap.size = g ∧ w.heap.size + 1 = h ∧ w.heap.size + 1 + 1 = r ∧ w.heap.size + 1 + 1 + 1 = q ∧
    Hid (Box2 W g x y) ∧ Hid (Box2 W h x' y') ∧ Hid (Box2 W r x2 y2) ∧ Hid (Box2 W q x3 y3) ∧ Hid (w.heap.size = g ∧ g + 1 = h ∧ g + 2 = r ∧ g + 3 = q) ∧ Hid (W.heap.size = g + 4) ∧ Below w.heap.size w W := by
  obtain ⟨W1, g, h, r, hW, hg, hh, hr, ⟨h1, h2⟩, b1, b2, b3, hb, hs⟩ := box_three w x y x' y' x2 y2
  rw [hW]
  obtain ⟨W2, q, hW2, hq, b4, hb2, hs2⟩ := box_new W1 x3 y3
  have hb3 : Below W1.heap.size W1 W2 := by rw [hq]; exact hb2
  have b1' := b1.below hb3 b1.lt
  have b2' := b2.below hb3 b2.lt
  have b3' := b3.below hb3 b3.lt
  exact ⟨W2, g, h, r, q, hW2, hg, hh, hr, by omega, Lib.hid b1', Lib.hid b2', Lib.hid b3', Lib.hid b4, Lib.hid (by omega), Lib.hid (by omega), by rw [hg]; exact hb.trans (hb2.mono (by omega))⟩
theorem Part.put {w w' : World} {g base : Nat} {v : Value} {n : Nat} (h : Part w base v n) (p : Put g w w') : Part w' base v n := by
  obtain ⟨A, c, xs, h1, h2, h3, h4, h5, h6⟩ := h
  exact ⟨A, c, xs, h1, h2, h3, h4.put p, h5.put p, h6⟩
theorem raw_right (v : Value) (x : Raw) (w : World) (h : RawV w v x) : Calls Try.prog 15 #[v] w fun e w' => e = .returned (.bool (rightInt x)) ∧ Below w.heap.size w w' := by
  obtain ⟨A, l, c, rfl, hl, hc, hlim⟩ := h
  exact limb_right x.1 A l c x.2 w (Nat.le_refl _) hlim hl
/-- Why two records are not divided. -/
def wrongE (x y : Raw) : Int := if rightInt x && rightInt y then (if y.2.length = 0 then 7 else 0) else 2
theorem wrongE_cases (x y : Raw) : wrongE x y = 2 ∨ wrongE x y = 7 ∨ wrongE x y = 0 := by
  unfold wrongE; split
  · split <;> simp
  · simp
set_option maxRecDepth 100000 in
theorem divide_wrong (u v : Value) (x y : Raw) (w : World) (hu : RawV w u x) (hv : RawV w v y) :
    Calls Try.prog 36 #[u, v] w fun e w' => e = .returned (.int .i64 (wrongE x y)) ∧ Below w.heap.size w w' := by
  obtain ⟨b1, A1, l1, c1, rfl, HU⟩ := hu.open
  obtain ⟨b2, A2, l2, c2, rfl, HV⟩ := hv.open
  have HL2 := Lib.hid HV.out.parts.2.1
  clear hu hv
  go_enter Try.func36, Try.ntmps36
  go_wp2_with fail
  obtain ⟨W0, g, h, hW, hg, hr, bx, by_, G_g, S_W0, hb⟩ := boxH2 w (.bool b1) (.slice A1 l1 c1) (.bool b2) (.slice A2 l2 c2)
  rw [hW, hr, hg]
  replace HU := Lib.hid (HU.out.stay hb)
  replace HV := Lib.hid (HV.out.stay hb)
  have B_W0 := Lib.hid (show Since w W0 from hb)
  clear hW hg hr hb
  have a0 := bx.out.cell0
  have a1 := bx.out.cell1
  go_wp2_with fail
  refine (raw_right _ x W0 HU.out).mono ?_
  rintro e w1 ⟨rfl, hb⟩
  replace HU := Lib.hid (HU.out.stay hb)
  replace HV := Lib.hid (HV.out.stay hb)
  replace bx := Lib.hid (bx.out.stay hb)
  replace by_ := Lib.hid (by_.out.stay hb)
  replace B_W0 := Lib.hid (B_W0.out.stay hb)
  clear hb a0 a1
  rcases hr : rightInt x
  · have HE := Lib.hid (show wrongE x y = 2 by unfold wrongE; rw [hr]; rfl)
    clear hr
    go_wp2_with fail
    go_ret
    rw [HE.out]
    exact ⟨rfl, B_W0.out⟩
  · have HR := Lib.hid hr
    clear hr
    have a0 := by_.out.cell0
    have a1 := by_.out.cell1
    go_wp2_with fail
    refine (raw_right _ y _ HV.out).mono ?_
    rintro e w2 ⟨rfl, hb⟩
    replace bx := Lib.hid (bx.out.stay hb)
    replace by_ := Lib.hid (by_.out.stay hb)
    replace B_W0 := Lib.hid (B_W0.out.stay hb)
    clear hb a0 a1
    rcases hr : rightInt y
    · have HE := Lib.hid (show wrongE x y = 2 by unfold wrongE; rw [hr, HR.out]; rfl)
      clear hr
      go_wp2_with fail
      go_ret
      rw [HE.out]
      exact ⟨rfl, B_W0.out⟩
    · have a0 := by_.out.cell0
      have a1 := by_.out.cell1
      by_cases h0 : l2 = 0
      · subst h0
        have HE := Lib.hid (show wrongE x y = 7 by unfold wrongE; rw [hr, HR.out, ← HL2.out]; rfl)
        clear hr
        go_wp2_with fail
        go_ret
        rw [HE.out]
        exact ⟨rfl, B_W0.out⟩
      · have HE := Lib.hid (show wrongE x y = 0 by unfold wrongE; rw [hr, HR.out, ← HL2.out, if_neg h0]; rfl)
        have h0I : ((l2 : Int) == 0) = false := beq_eq_false_iff_ne.2 (by omega)
        clear hr h0
        go_wp2_with fail
        go_ret
        rw [HE.out]
        exact ⟨rfl, B_W0.out⟩
set_option maxRecDepth 100000 in
theorem divide_Trunc_bad (u v : Value) (x y : Raw) (E : Int) (w : World) (hu : RawV w u x) (hv : RawV w v y) (hE : wrongE x y = E) (h0 : E ≠ 0) :
    Calls Try.prog 12 #[u, v] w fun e w' => e = .returned (.tuple #[none2, none2, .int .i64 E]) ∧ Below w.heap.size w w' := by
  obtain ⟨b1, A1, l1, c1, rfl, HU⟩ := hu.open
  obtain ⟨b2, A2, l2, c2, rfl, HV⟩ := hv.open
  have HE := Lib.hid hE
  have h0I : ((E : Int) != 0) = true := by rw [bne_iff_ne]; exact h0
  clear hu hv hE h0
  go_enter Try.func12, Try.ntmps12
  go_wp2_with fail
  obtain ⟨W0, g, h, r, q, hW, hg, hh, hr, hq, bx, by_, br, bq, G_g, S_W0, hb⟩ := boxH4 w (.bool b1) (.slice A1 l1 c1) (.bool b2) (.slice A2 l2 c2) (.bool false) (.slice none 0 0) (.bool false) (.slice none 0 0)
  rw [hW, hq, hr, hh, hg]
  replace HU := Lib.hid (HU.out.stay hb)
  replace HV := Lib.hid (HV.out.stay hb)
  have B_W0 := Lib.hid (show Since w W0 from hb)
  clear hW hg hh hr hq hb
  have a0 := bx.out.cell0
  have a1 := bx.out.cell1
  have b0 := by_.out.cell0
  have b1 := by_.out.cell1
  go_wp2_with fail
  refine (divide_wrong _ _ x y W0 HU.out HV.out).mono ?_
  rintro e w1 ⟨rfl, hb⟩
  rw [HE.out]
  replace bx := Lib.hid (bx.out.stay hb)
  replace by_ := Lib.hid (by_.out.stay hb)
  replace br := Lib.hid (br.out.stay hb)
  replace bq := Lib.hid (bq.out.stay hb)
  replace B_W0 := Lib.hid (B_W0.out.stay hb)
  clear hb a0 a1 b0 b1
  have hne : ¬ r = q := by have := G_g.out; omega
  have HGG := Lib.hid (show w.heap.size ≤ r ∧ w.heap.size ≤ q by have := G_g.out; omega)
  have c0 := br.out.cell0
  have c1' := br.out.cell1
  have f0 := br.out.free 0
  have f1 := br.out.free 1
  have d0 := bq.out.cell0
  have d1 := bq.out.cell1
  have g0 := bq.out.free 0
  have g1 := bq.out.free 1
  have bh := Box2.far (h := q) (a := .bool false) (b := .slice none 0 0) (br.out.store (a := .bool false) (b := .slice none 0 0)) (fun e => hne e.symm)
  have bk := (Box2.far (h := r) (a := .bool false) (b := .slice none 0 0) bq.out hne).store (a := .bool false) (b := .slice none 0 0)
  go_wp2_with fail
  refine bodyPost_ret (v := .tuple #[.agg #[.bool false, (.slice none 0 0)], .agg #[.bool false, (.slice none 0 0)], (.int .i64 E)]) (by
    rw [results_rec2 rfl]
    have hld := run_loadVar_row (P := Try.prog) _ r 24 24 #[.bool false, (.slice none 0 0)] (0, 0) _ bh Try.underlying24 rfl (by kernel_rfl)
    have hld2 := run_loadVar_row (P := Try.prog) _ q 24 24 #[.bool false, (.slice none 0 0)] (0, 0) _ bk Try.underlying24 rfl (by kernel_rfl)
    simp [asAddr, Result.andThen, hld, hld2]) rfl ?_
  exact ⟨rfl, store2_below (store2_below B_W0.out HGG.out.1) HGG.out.2⟩
theorem wrongE_int {x y : Int} (lx : lc x.natAbs ≤ 4096) (ly : lc y.natAbs ≤ 4096) (h0 : y ≠ 0) : wrongE (rawOf x) (rawOf y) = 0 := by
  unfold wrongE
  have h1 := right_of lx
  have h2 := right_of ly
  have h3 : (limbs y.natAbs).length ≠ 0 := fun h => by have := limbs_eq_nil.1 (List.eq_nil_of_length_eq_zero h); omega
  unfold rawOf
  rw [h1, h2, if_neg h3]; rfl
set_option maxHeartbeats 1000000 in
set_option maxRecDepth 100000 in
theorem divide_Trunc (u v : Value) (x y : Int) (w : World) (hu : IntV w u x) (hv : IntV w v y) (lx : lc x.natAbs ≤ 4096) (ly : lc y.natAbs ≤ 4096) (h0 : y ≠ 0) (hg : lc y.natAbs ≤ 1200 ∨ lc x.natAbs ≤ lc y.natAbs + 800) :
    Calls Try.prog 12 #[u, v] w fun e w' => ∃ p q, e = .returned (.tuple #[p, q, .int .i64 0]) ∧ RawAt w' w.heap.size p (rawOf (x.tdiv y)) ∧ RawAt w' w.heap.size q (rawOf (x.tmod y)) ∧ Sep p q ∧ Below w.heap.size w w' := by
  obtain ⟨b1, A1, l1, c1, rfl, HU⟩ := hu.open
  obtain ⟨b2, A2, l2, c2, rfl, HV⟩ := hv.open
  have HP1 := Lib.hid HU.out.parts
  have HP2 := Lib.hid HV.out.parts
  have HWR := Lib.hid (wrongE_int lx ly h0)
  have HLX := Lib.hid lx
  have HLY := Lib.hid ly
  have HG := Lib.hid hg
  have H0 := Lib.hid h0
  clear hu hv lx ly h0 hg
  go_enter Try.func12, Try.ntmps12
  go_wp2_with fail
  obtain ⟨W0, g, h, r, q, hW, hg, hh, hr, hq, bx, by_, br, bq, G_g, S_W0, hb⟩ := boxH4 w (.bool b1) (.slice A1 l1 c1) (.bool b2) (.slice A2 l2 c2) (.bool false) (.slice none 0 0) (.bool false) (.slice none 0 0)
  rw [hW, hq, hr, hh, hg]
  replace HU := Lib.hid (HU.out.stay hb)
  replace HV := Lib.hid (HV.out.stay hb)
  have B_W0 := Lib.hid (show Since w W0 from hb)
  clear hW hg hh hr hq hb
  have a0 := bx.out.cell0
  have a1 := bx.out.cell1
  have b0 := by_.out.cell0
  have b1 := by_.out.cell1
  go_wp2_with fail
  refine (divide_wrong _ _ _ _ W0 HU.out.raw HV.out.raw).mono ?_
  rintro e w1 ⟨rfl, hb⟩
  rw [HWR.out]
  replace HU := Lib.hid (HU.out.stay hb)
  replace HV := Lib.hid (HV.out.stay hb)
  replace bx := Lib.hid (bx.out.stay hb)
  replace by_ := Lib.hid (by_.out.stay hb)
  replace br := Lib.hid (br.out.stay hb)
  replace bq := Lib.hid (bq.out.stay hb)
  replace B_W0 := Lib.hid (B_W0.out.stay hb)
  clear hb a0 a1 b0 b1
  have a0 := bx.out.cell0
  have a1 := bx.out.cell1
  have b0 := by_.out.cell0
  have b1 := by_.out.cell1
  go_wp2_with fail
  have C := divide_divide A1 A2 c1 c2 x.natAbs y.natAbs l1 l2 w1 HU.out.parts.2.2.2 HV.out.parts.2.2.2 HP1.out.2.1 HP2.out.2.1 (by have h1 := HP1.out.2.1; have h2 := HLX.out; unfold lc at h2; omega) (by have h1 := HP2.out.2.1; have h2 := HLY.out; unfold lc at h2; omega) HP1.out.2.2.1 (by have := H0.out; omega) (by have h1 := HG.out; unfold lc at h1; have h2 := HP1.out.2.1; have h3 := HP2.out.2.1; omega)
  refine C.mono ?_
  rintro e w2 ⟨p, q', rfl, hp, hq, hs, hb⟩
  clear C a0 a1 b0 b1
  replace bx := Lib.hid (bx.out.stay hb)
  replace by_ := Lib.hid (by_.out.stay hb)
  replace br := Lib.hid (br.out.stay hb)
  replace bq := Lib.hid (bq.out.stay hb)
  have HPP := Lib.hid (hp.since B_W0.out.size)
  have HPQ := Lib.hid (hq.since B_W0.out.size)
  have HSP := Lib.hid hs
  replace B_W0 := Lib.hid (B_W0.out.stay hb)
  clear hp hq hs hb HU HV
  go_upto_region 5 with (fail)
  have a0 := later_cell bx.out.cell0
  have a1 := later_cell bx.out.cell1
  have b0 := later_cell by_.out.cell0
  have b1 := later_cell by_.out.cell1
  refine wp_region_stages (fun w' => ∃ δ : Later Nix w2, w' = δ.world) [(false, 0), (false, 1), (false, 2), (false, 3), (false, 4), (false, 5), (false, 7), (false, 8), (false, 9), (true, 6)] 10 [.reads [_, _, _, _, _, _, _, _, _], .loud _] [_, _, _, _] (by kernel_rfl) (by kernel_rfl) rfl rfl ?_ ?_
  · exact ⟨⟨_, nix_drawn w2⟩, rfl⟩
  refine wpStages_reads ?_
  repeat (go_big_quiet_step (fail))
  refine wpQuiet_nil ?_
  refine wpStages_loud rfl ?_
  intro K hK
  go_big_op
  clear a0 a1 b0 b1
  have ex : Ext Nix w2 (w2.drewN 1) := nix_drawn w2
  have hb : Below w2.heap.size w2 (w2.drewN 1) := below_drewN (Below.refl _ _) 1
  replace HPP := Lib.hid (HPP.out.stay hb)
  replace HPQ := Lib.hid (HPQ.out.stay hb)
  replace bx := Lib.hid (bx.out.stay hb)
  replace by_ := Lib.hid (by_.out.stay hb)
  replace br := Lib.hid (br.out.stay hb)
  replace bq := Lib.hid (bq.out.stay hb)
  replace B_W0 := Lib.hid (B_W0.out.stay hb)
  clear hb
  refine ((divide_made (!(b1 == b2)) p _ _ _ HPP.out)).mono ?_
  rintro e w3 ⟨up, rfl, hup, hk1, hb⟩
  replace ex : Ext Nix w2 w3 := ex.later (Ext.of_below hb)
  replace HPQ := Lib.hid (HPQ.out.stay hb)
  replace bx := Lib.hid (bx.out.stay hb)
  replace by_ := Lib.hid (by_.out.stay hb)
  replace br := Lib.hid (br.out.stay hb)
  replace bq := Lib.hid (bq.out.stay hb)
  replace B_W0 := Lib.hid (B_W0.out.stay hb)
  clear hb
  refine hK _ _ ⟨⟨_, ex⟩, rfl⟩ ?_
  clear hK K
  obtain ⟨bu, Au, lu, cu, rfl, HU⟩ := hup.open
  have HK1 := Lib.hid hk1
  clear hup hk1 HPP
  refine wpStages_nil ?_
  go_wp2_with fail
  refine (divide_made b1 q' _ _ _ HPQ.out).mono ?_
  rintro e w4 ⟨uq, rfl, huq, hk2, hb⟩
  replace HU := Lib.hid (HU.out.stay hb)
  replace bx := Lib.hid (bx.out.stay hb)
  replace by_ := Lib.hid (by_.out.stay hb)
  replace br := Lib.hid (br.out.stay hb)
  replace bq := Lib.hid (bq.out.stay hb)
  replace B_W0 := Lib.hid (B_W0.out.stay hb)
  obtain ⟨bv, Av, lv, cv, rfl, HV⟩ := huq.open
  have HK2 := Lib.hid hk2
  clear huq hk2 hb HPQ
  have hne : ¬ r = q := by have := G_g.out; omega
  have HGG := Lib.hid (show w.heap.size ≤ r ∧ w.heap.size ≤ q by have := G_g.out; omega)
  have c0 := br.out.cell0
  have c1' := br.out.cell1
  have f0 := br.out.free 0
  have f1 := br.out.free 1
  have d0 := bq.out.cell0
  have d1 := bq.out.cell1
  have g0 := bq.out.free 0
  have g1 := bq.out.free 1
  have n0 := br.out.nums
  have n1 := bq.out.nums
  have bh := Box2.far (h := q) (a := .bool bv) (b := .slice Av lv cv) (br.out.store (a := .bool bu) (b := .slice Au lu cu)) (fun e => hne e.symm)
  have bk := Box2.far (h := r) (a := .bool bu) (b := .slice Au lu cu) bq.out hne
  have HBK := Lib.hid (And.intro bh bk)
  have HN := Lib.hid (And.intro n0 n1)
  clear bh bk n0 n1
  go_wp2_with fail
  refine bodyPost_ret (v := .tuple #[.agg #[.bool bu, (.slice Au lu cu)], .agg #[.bool bv, (.slice Av lv cv)], (.int .i64 0)]) (by
    rw [results_rec2 rfl]
    have hld := run_loadVar_row (P := Try.prog) _ r 24 24 #[.bool bu, (.slice Au lu cu)] (0, 0) _ HBK.out.1 Try.underlying24 rfl (by kernel_rfl)
    have hld2 := run_loadVar_row (P := Try.prog) _ q 24 24 #[.bool bv, (.slice Av lv cv)] (0, 0) _ HBK.out.2.store Try.underlying24 rfl (by kernel_rfl)
    simp [asAddr, Result.andThen, hld, hld2]) rfl ?_
  have e1 : signed (!(b1 == b2)) (x.natAbs / y.natAbs) = x.tdiv y := by rw [HP1.out.1, HP2.out.1]; exact signed_quo x y
  have e2 : signed b1 (x.natAbs % y.natAbs) = x.tmod y := by rw [HP1.out.1]; exact signed_rem x y
  rw [e1] at HU
  rw [e2] at HV
  exact ⟨_, _, rfl, (HU.out.store2 HN.out.1 _ _).store2 HBK.out.2.nums _ _, (HV.out.store2 HN.out.1 _ _).store2 HBK.out.2.nums _ _, HSP.out.sub HK1.out HK2.out, store2_below (store2_below B_W0.out HGG.out.1) HGG.out.2⟩
theorem fmod_size (x : Int) {y : Int} (h0 : y ≠ 0) : (x.fmod y).natAbs < y.natAbs := by
  rcases Int.lt_trichotomy y 0 with h | h | h
  · have h1 := Int.fmod_lt_of_pos (-x) (b := -y) (by omega)
    have h2 := Int.fmod_nonneg_of_pos (-x) (b := -y) (by omega)
    rw [Int.neg_fmod_neg] at h1 h2
    omega
  · exact absurd h h0
  · have h1 := Int.fmod_lt_of_pos x h
    have h2 := Int.fmod_nonneg_of_pos x h
    omega
/-- Two blocks. -/
def Duo (r q : Nat) : Nat → Prop := fun i => i = r ∨ i = q
theorem later_duo {w : World} {p : Addr} {v : Value} {r q : Nat} (h : w.cell? p = some v) (h1 : p.block ≠ r) (h2 : p.block ≠ q) (δ : Later (Duo r q) w) : δ.world.cell? p = some v := by
  rw [cell_of_block (w := w) (δ.ext.block _ (World.block_lt_of_cell? w p h) (fun h => h.elim h1 h2))]; exact h
theorem duo_drawn {r q : Nat} (w : World) (hr : NoNum w r) (hq : NoNum w q) : Ext (Duo r q) w (w.drewN 1) := ⟨rfl, rfl, rfl, Nat.le_refl _, fun _ _ _ => rfl, fun i hi _ => by rcases hi with rfl | rfl; exact hr; exact hq⟩
theorem Ext.back {G : Nat → Prop} {w w' : World} (h : Ext G w w') : Ext G w w := ⟨rfl, rfl, rfl, Nat.le_refl _, fun _ _ _ => rfl, h.num⟩
theorem Ext.duo1 {r q : Nat} {w w1 w2 : World} (e : Ext (Duo r q) w w1) (hr : NoNum w r) (hq : NoNum w q) (k : Ext (· = r) w1 w2) : Ext (Duo r q) w w2 :=
  (e.trans k).mono (fun i _ hi => hi.elim (fun h => h) (fun h => .inl h)) (fun i hi _ => by rcases hi with rfl | rfl; exact hr; exact hq)
theorem Ext.duo2 {r q : Nat} {w w1 w2 : World} (e : Ext (Duo r q) w w1) (hr : NoNum w r) (hq : NoNum w q) (k : Ext (· = q) w1 w2) : Ext (Duo r q) w w2 :=
  (e.trans k).mono (fun i _ hi => hi.elim (fun h => h) (fun h => .inr h)) (fun i hi _ => by rcases hi with rfl | rfl; exact hr; exact hq)
theorem Sep.of_raw {w w' : World} {b1 : Nat} {u v : Value} {x y : Raw} (hu : RawAt w b1 u x) (hv : RawAt w' w.heap.size v y) : Sep u v := by
  obtain ⟨A, l, c, rfl, _, _, _, hf⟩ := hu
  obtain ⟨B, m, d, rfl, _, _, _, hg⟩ := hv
  intro a b h1 h2
  rcases hf with ⟨rfl, _⟩ | ⟨g, cs, rfl, _, h3, _⟩
  · cases h1
  · rcases hg with ⟨rfl, _⟩ | ⟨g', cs', rfl, h4, _, _⟩
    · cases h2
    · injection h1 with h1
      injection h2 with h2
      have := (Array.getElem?_eq_some_iff.1 h3).1
      simp only at h1 h2
      omega
theorem floor_case (x y : Int) (h0 : y ≠ 0) : (x.tmod y ≠ 0 ∧ decide (x < 0) ≠ decide (y < 0) ∧ x.fdiv y = x.tdiv y - 1 ∧ x.fmod y = x.tmod y + y) ∨ ((x.tmod y = 0 ∨ decide (x < 0) = decide (y < 0)) ∧ x.fdiv y = x.tdiv y ∧ x.fmod y = x.tmod y) := by
  have h := Int.fdiv_eq_tdiv (a := x) (b := y)
  have h1 := Int.mul_tdiv_add_tmod x y
  have h2 := Int.mul_fdiv_add_fmod x y
  have h3 : y ∣ x ↔ x.tmod y = 0 := Int.dvd_iff_tmod_eq_zero
  by_cases hm : x.tmod y = 0
  · rw [if_pos (h3.2 hm), Int.sub_zero] at h
    exact .inr ⟨.inl hm, h, by rw [h] at h2; omega⟩
  · rw [if_neg (fun hd => hm (h3.1 hd))] at h
    by_cases hs : decide (x < 0) = decide (y < 0)
    · have e : x.fdiv y = x.tdiv y := by
        rw [h]
        by_cases hx : 0 ≤ x
        · have hy : 0 ≤ y := by
            rw [decide_eq_false (by omega)] at hs
            have := of_decide_eq_false hs.symm; omega
          rw [if_pos hx, if_pos hy, Int.sub_zero]
        · have hy : ¬ 0 ≤ y := by
            rw [decide_eq_true (by omega)] at hs
            have := of_decide_eq_true hs.symm; omega
          rw [if_neg hx, if_neg hy, Int.sign_eq_neg_one_of_neg (by omega)]; omega
      exact .inr ⟨.inr hs, e, by rw [e] at h2; omega⟩
    · have e : x.fdiv y = x.tdiv y - 1 := by
        rw [h]
        by_cases hx : 0 ≤ x
        · have hy : ¬ 0 ≤ y := fun hy => hs (by rw [decide_eq_false (by omega), decide_eq_false (by omega)])
          rw [if_pos hx, if_neg hy]
        · have hy : 0 ≤ y := by
            rcases Decidable.em (0 ≤ y) with hy | hy
            · exact hy
            · exact absurd (by rw [decide_eq_true (by omega), decide_eq_true (by omega)]) hs
          rw [if_neg hx, if_pos hy, Int.sign_eq_one_of_pos (by omega)]
      refine .inl ⟨hm, hs, e, ?_⟩
      rw [e, Int.mul_sub, Int.mul_one] at h2
      omega
theorem floor_sizes {x y : Int} (h0 : y ≠ 0) (hm : x.tmod y ≠ 0) : (x.tdiv y - 1).natAbs ≤ x.natAbs ∧ (x.tmod y).natAbs < y.natAbs ∧ (x.tdiv y).natAbs ≤ x.natAbs := by
  have h1 := Int.natAbs_tdiv x y
  have h2 := Int.natAbs_tmod x y
  have h3 : (x.tmod y).natAbs ≠ 0 := by omega
  obtain ⟨m, hm'⟩ : ∃ m, x.natAbs = m := ⟨_, rfl⟩
  obtain ⟨n, hn⟩ : ∃ n, y.natAbs = n := ⟨_, rfl⟩
  have hn0 : 0 < n := by omega
  have h1' : (x.tdiv y).natAbs = m / n := by rw [h1, hm', hn]; rfl
  have h2' : (x.tmod y).natAbs = m % n := by rw [h2, hm', hn]
  rw [hm', hn]
  have h4 : n ≠ 1 := by rintro rfl; rw [h2', Nat.mod_one] at h3; exact h3 rfl
  have h5 : m / n ≤ m / 2 := Nat.div_le_div_left (by omega) (by omega)
  have h6 := Nat.mod_lt m hn0
  have h7 : m ≠ 0 := by rintro rfl; rw [h2', Nat.zero_mod] at h3; exact h3 rfl
  omega
set_option maxHeartbeats 1000000 in
set_option maxRecDepth 100000 in
theorem divide_Floor (u v : Value) (x y : Int) (w : World) (hu : IntV w u x) (hv : IntV w v y) (lx : lc x.natAbs ≤ 4096) (ly : lc y.natAbs ≤ 4096) (h0 : y ≠ 0) (hg : lc y.natAbs ≤ 1200 ∨ lc x.natAbs ≤ lc y.natAbs + 800) :
    Calls Try.prog 10 #[u, v] w fun e w' => ∃ p q, e = .returned (.tuple #[p, q, .int .i64 0]) ∧ RawAt w' w.heap.size p (rawOf (x.fdiv y)) ∧ RawAt w' w.heap.size q (rawOf (x.fmod y)) ∧ Sep p q ∧ Below w.heap.size w w' := by
  obtain ⟨b1, A1, l1, c1, rfl, HU⟩ := hu.open
  obtain ⟨b2, A2, l2, c2, rfl, HV⟩ := hv.open
  have HP1 := Lib.hid HU.out.parts
  have HP2 := Lib.hid HV.out.parts
  have HLX := Lib.hid lx
  have HLY := Lib.hid ly
  have HG := Lib.hid hg
  have H0 := Lib.hid h0
  clear hu hv lx ly h0 hg
  go_enter Try.func10, Try.ntmps10
  go_wp2_with fail
  obtain ⟨W0, g, h, r, q, hW, hg, hh, hr, hq, bx, by_, br, bq, G_g, S_W0, hb⟩ := boxH4 w (.bool b1) (.slice A1 l1 c1) (.bool b2) (.slice A2 l2 c2) (.bool false) (.slice none 0 0) (.bool false) (.slice none 0 0)
  rw [hW, hq, hr, hh, hg]
  replace HU := Lib.hid (HU.out.stay hb)
  replace HV := Lib.hid (HV.out.stay hb)
  have B_W0 := Lib.hid (show Since w W0 from hb)
  clear hW hg hh hr hq hb
  have a0 := bx.out.cell0
  have a1 := bx.out.cell1
  have b0 := by_.out.cell0
  have b1 := by_.out.cell1
  go_wp2_with fail
  refine (divide_Trunc _ _ x y W0 HU.out HV.out HLX.out HLY.out H0.out HG.out).mono ?_
  rintro e w1 ⟨p, q', rfl, hp, hq, hs, hb⟩
  obtain ⟨bp, Ap, lp, cp, rfl, HP⟩ := hp.open
  obtain ⟨bm, Am, lm, cm, rfl, HM⟩ := hq.open
  have HS := Lib.hid hs
  clear hp hq hs
  replace HV := Lib.hid (HV.out.stay hb)
  replace bx := Lib.hid (bx.out.stay hb)
  replace by_ := Lib.hid (by_.out.stay hb)
  replace br := Lib.hid (br.out.stay hb)
  replace bq := Lib.hid (bq.out.stay hb)
  replace B_W0 := Lib.hid (B_W0.out.stay hb)
  clear hb a0 a1 b0 b1
  go_upto_region 2 with (fail)
  have HQL := Lib.hid bq.out.lt
  obtain ⟨W2, gp, gm, hW, hg, hr, bpp, bmm, G_gp, S_W2, hb⟩ := boxH2 w1 (.bool bp) (.slice Ap lp cp) (.bool bm) (.slice Am lm cm)
  rw [hW, hr, hg]
  replace HV := Lib.hid (HV.out.stay hb)
  replace HP := Lib.hid (HP.out.stay hb)
  replace HM := Lib.hid (HM.out.stay hb)
  replace bx := Lib.hid (bx.out.stay hb)
  replace by_ := Lib.hid (by_.out.stay hb)
  replace br := Lib.hid (br.out.stay hb)
  replace bq := Lib.hid (bq.out.stay hb)
  replace B_W0 := Lib.hid (B_W0.out.stay hb)
  have B_W2 := Lib.hid (show Since w1 W2 from hb)
  clear hW hg hr hb
  replace HQL := Lib.hid (show q < gp ∧ gp < gm by have h1 := HQL.out; have h2 := G_gp.out; omega)
  have HLM := Lib.hid HM.out.rawV.parts.2.1
  go_cut [31] (fun t wx => W2 = wx ∧ t = .bool (decide (lm ≠ 0) && (b1 != b2)))
  case first =>
    have a0 := bx.out.cell0
    have a1 := bx.out.cell1
    have k0 := by_.out.cell0
    have k1 := by_.out.cell1
    have c0 := bmm.out.cell0
    have c1 := bmm.out.cell1
    by_cases hl : lm = 0
    · subst hl
      go_wp2_with fail
      go_meet
      exact ⟨rfl, rfl⟩
    · have hlI : (0 : Int) < (lm : Int) := by omega
      have HL := Lib.hid hl
      clear hl
      rcases b1 <;> rcases b2
      all_goals
        go_wp2_with fail
        go_meet
        exact ⟨rfl, by rw [decide_eq_true HL.out]; rfl⟩
  case rest =>
    obtain ⟨rfl, rfl⟩ := hcut
    have HZ := Lib.hid (show lm = 0 ↔ x.tmod y = 0 by
      rw [HLM.out]
      constructor
      · intro h; have := limbs_eq_nil.1 (List.eq_nil_of_length_eq_zero h); omega
      · intro h; rw [h]; show (limbs 0).length = 0; rw [limbs_zero]; rfl)
    go_upto_if 31 with (fail)
    go_cut [] (fun wx => ∃ (bp : Bool) (Ap : Option Addr) (lp cp : Nat) (bm : Bool) (Am : Option Addr) (lm cm : Nat), Hid (Box2 wx gp (.bool bp) (.slice Ap lp cp)) ∧ Hid (Box2 wx gm (.bool bm) (.slice Am lm cm)) ∧ Hid (RawAt wx W0.heap.size (.agg #[.bool bp, .slice Ap lp cp]) (rawOf (x.fdiv y))) ∧ Hid (RawAt wx W0.heap.size (.agg #[.bool bm, .slice Am lm cm]) (rawOf (x.fmod y))) ∧
      Hid (Sep (.agg #[.bool bp, .slice Ap lp cp]) (.agg #[.bool bm, .slice Am lm cm])) ∧ Hid (Box2 wx r (.bool false) (.slice none 0 0)) ∧ Hid (Box2 wx q (.bool false) (.slice none 0 0)) ∧ Hid (Since w wx))
    case first =>
      rcases floor_case x y H0.out with ⟨hm, hs, hf, hr⟩ | ⟨hms, hf, hr⟩
      · have hcond : (decide (lm ≠ 0) && (b1 != b2)) = true := by
          have e : decide (lm ≠ 0) = true := decide_eq_true (fun h => hm (HZ.out.1 h))
          rw [HP1.out.1, HP2.out.1, e, Bool.true_and, bne_iff_ne]; exact hs
        have HSZ := Lib.hid (floor_sizes H0.out hm)
        have HFR := Lib.hid (And.intro hf hr)
        rw [hcond]
        clear hcond hm hs hf hr
        go_upto_region 3 with (fail)
        have a0 := bpp.out.cell0
        have a1 := bpp.out.cell1
        have fr := bpp.out.free
        have HL1 := Lib.hid (show lc (x.tdiv y - 1).natAbs ≤ 4096 ∧ lc (x.tdiv y).natAbs ≤ 4096 ∧ lc (1 : Int).natAbs ≤ 4096 from ⟨Nat.le_trans (lc_mono HSZ.out.1) HLX.out, Nat.le_trans (lc_mono HSZ.out.2.2) HLX.out, Nat.le_trans one_len (by omega)⟩)
        go_region_with (first
          | (go_at_call 34
             refine (limb_Of 1 _ (by omega) (by omega)).mono ?_
             rintro e w3 ⟨u1, rfl, hu1, hb⟩
             have HO := Lib.hid hu1.rawV.int
             replace hb : Below W2.heap.size W2 w3 := (below_drewN (Below.refl _ W2) 1).trans hb
             have HS3 := Lib.hid (show W0.heap.size ≤ w3.heap.size by have h1 := hb.size; have h2 := G_gp.out; have h3 := G_g.out; have h4 := S_W0.out; have h5 := HQL.out; have h6 := S_W2.out; omega)
             clear hu1 a0 a1 fr
             replace HP := Lib.hid (HP.out.stay hb)
             replace HM := Lib.hid (HM.out.stay hb)
             replace HV := Lib.hid (HV.out.stay hb)
             replace bpp := Lib.hid (bpp.out.stay hb)
             replace bmm := Lib.hid (bmm.out.stay hb)
             replace by_ := Lib.hid (by_.out.stay hb)
             replace br := Lib.hid (br.out.stay hb)
             replace bq := Lib.hid (bq.out.stay hb)
             replace B_W0 := Lib.hid (B_W0.out.stay hb)
             have a0 := bpp.out.cell0
             have a1 := bpp.out.cell1
             have fr := bpp.out.free
             clear hb)
          | (go_at_call 33
             refine (limb_Sub _ _ (x.tdiv y) 1 _ HP.out.rawV.int HO.out HL1.out.2.1 HL1.out.2.2).mono ?_
             rintro e w4 ⟨u2, rfl, hu2, hb⟩
             rw [longR_ok HL1.out.1, ← HFR.out.1] at hu2
             rw [longE_ok HL1.out.1]
             obtain ⟨bp', Ap', lp', cp', rfl, HPN⟩ := (hu2.since (base' := W0.heap.size) HS3.out).open
             clear hu2 a0 a1 fr HP HO
             replace HM := Lib.hid (HM.out.stay hb)
             replace HV := Lib.hid (HV.out.stay hb)
             replace bpp := Lib.hid (bpp.out.stay hb)
             replace bmm := Lib.hid (bmm.out.stay hb)
             replace by_ := Lib.hid (by_.out.stay hb)
             replace br := Lib.hid (br.out.stay hb)
             replace bq := Lib.hid (bq.out.stay hb)
             replace B_W0 := Lib.hid (B_W0.out.stay hb)
             have a0 := bpp.out.cell0
             have a1 := bpp.out.cell1
             have fr := bpp.out.free
             have HB4 := Lib.hid (show W0.heap.size ≤ gp by have h1 := G_g.out; have h2 := S_W0.out; have h3 := HQL.out; omega)
             clear hb))
        all_goals
          obtain ⟨W5, hW5, bpn, p5⟩ := bpp.out.write (.bool bp') (.slice Ap' lp' cp')
          rw [hW5]
          replace HM := Lib.hid (HM.out.put p5)
          replace HV := Lib.hid (HV.out.put p5)
          replace HPN := Lib.hid (HPN.out.put p5)
          replace bmm := Lib.hid (bmm.out.put p5 (by have := HQL.out; omega))
          replace by_ := Lib.hid (by_.out.put p5 (by have h1 := HQL.out; have h2 := G_g.out; omega))
          replace br := Lib.hid (br.out.put p5 (by have h1 := HQL.out; have h2 := G_g.out; omega))
          replace bq := Lib.hid (bq.out.put p5 (by have h1 := HQL.out; have h2 := G_g.out; omega))
          replace B_W0 := Lib.hid (B_W0.out.put p5 (by have h1 := HQL.out; have h2 := G_g.out; omega))
          clear hW5 p5 bpp a0 a1 fr
          have a0 := bmm.out.cell0
          have a1 := bmm.out.cell1
          have k0 := by_.out.cell0
          have k1 := by_.out.cell1
          have HL2 := Lib.hid (show lc (x.tmod y + y).natAbs ≤ 4096 ∧ lc (x.tmod y).natAbs ≤ 4096 by
            have h := fmod_size x H0.out
            rw [HFR.out.2] at h
            exact ⟨Nat.le_trans (lc_mono (Nat.le_of_lt h)) HLY.out, Nat.le_trans (lc_mono (Nat.le_of_lt HSZ.out.2.1)) HLY.out⟩)
          go_wp2_with fail
          refine (limb_Add _ _ (x.tmod y) y _ HM.out.rawV.int HV.out HL2.out.2 HLY.out).mono ?_
          rintro e w6 ⟨u3, rfl, hu3, hb⟩
          rw [longR_ok HL2.out.1, ← HFR.out.2] at hu3
          rw [longE_ok HL2.out.1]
          have hs := Sep.of_raw HPN.out hu3
          obtain ⟨bm', Am', lm', cm', rfl, HMN⟩ := hu3.open
          have HSN := Lib.hid hs
          replace HMN := Lib.hid (HMN.out.since (base' := W0.heap.size) (by have h1 := bpn.out.lt; have h2 := HB4.out; omega))
          clear hu3 hs HM HV by_ k0 k1 a0 a1
          replace HPN := Lib.hid (HPN.out.stay hb)
          replace bpn := Lib.hid (bpn.out.stay hb)
          replace bmm := Lib.hid (bmm.out.stay hb)
          replace br := Lib.hid (br.out.stay hb)
          replace bq := Lib.hid (bq.out.stay hb)
          replace B_W0 := Lib.hid (B_W0.out.stay hb)
          clear hb
          have a0 := bmm.out.cell0
          have a1 := bmm.out.cell1
          have fr := bmm.out.free
          go_upto_region 5 with (fail)
          obtain ⟨W7, hW7, bmn, p7⟩ := bmm.out.write (.bool bm') (.slice Am' lm' cm')
          rw [hW7]
          replace HMN := Lib.hid (HMN.out.put p7)
          replace HPN := Lib.hid (HPN.out.put p7)
          replace bpn := Lib.hid (bpn.out.put p7 (by have := HQL.out; omega))
          replace br := Lib.hid (br.out.put p7 (by have h1 := HQL.out; have h2 := G_g.out; omega))
          replace bq := Lib.hid (bq.out.put p7 (by have h1 := HQL.out; have h2 := G_g.out; omega))
          replace B_W0 := Lib.hid (B_W0.out.put p7 (by have h1 := HQL.out; have h2 := G_g.out; omega))
          clear hW7 p7 a0 a1 fr
          go_meet
          exact ⟨bp', Ap', lp', cp', bm', Am', lm', cm', bpn, bmn, HPN, HMN, HSN, br, bq, B_W0⟩
      · have hcond : (decide (lm ≠ 0) && (b1 != b2)) = false := by
          rw [HP1.out.1, HP2.out.1]
          rcases hms with h | h
          · have e : decide (lm ≠ 0) = false := decide_eq_false (fun h1 => h1 (HZ.out.2 h))
            rw [e, Bool.false_and]
          · rw [h]; simp
        have HFR := Lib.hid (And.intro hf hr)
        rw [hcond]
        clear hcond hms hf hr
        go_wp2_with fail
        go_meet
        rw [HFR.out.1, HFR.out.2]
        exact ⟨bp, Ap, lp, cp, bm, Am, lm, cm, bpp, bmm, HP, HM, HS, br, bq, B_W0⟩
    case rest =>
      clear HP HM bpp bmm bx by_ br bq B_W0 HS HLM HZ HV
      obtain ⟨bp, Ap, lp, cp, bm, Am, lm, cm, bpp, bmm, HP, HM, HS, br, bq, B_W0⟩ := hcut
      go_upto_region 5 with (fail)
      have hne : r ≠ q := by have := G_g.out; omega
      have HGG := Lib.hid (show w.heap.size ≤ r ∧ w.heap.size ≤ q ∧ w.heap.size ≤ W0.heap.size by have h1 := G_g.out; have h2 := S_W0.out; omega)
      have HX := Lib.hid (show (gp ≠ r ∧ gp ≠ q) ∧ (gm ≠ r ∧ gm ≠ q) by have h1 := G_g.out; have h2 := HQL.out; omega)
      have HNE := Lib.hid hne
      clear hne
      have a0 := later_duo bpp.out.cell0 HX.out.1.1 HX.out.1.2
      have a1 := later_duo bpp.out.cell1 HX.out.1.1 HX.out.1.2
      have k0 := later_duo bmm.out.cell0 HX.out.2.1 HX.out.2.2
      have k1 := later_duo bmm.out.cell1 HX.out.2.1 HX.out.2.2
      have HNN := Lib.hid (And.intro br.out.nums bq.out.nums)
      haveI : Nonempty (Later (Duo r q) wc) := ⟨⟨wc, (duo_drawn wc HNN.out.1 HNN.out.2).back⟩⟩
      refine wp_region_stages (fun w' => ∃ δ : Later (Duo r q) wc, w' = δ.world) [(false, 0), (false, 1), (false, 2), (true, 3), (true, 4)] 5 [.reads [_, _, _], .loud _, .loud _] [_] (by kernel_rfl) (by kernel_rfl) rfl rfl ?_ ?_
      · exact ⟨⟨_, duo_drawn wc HNN.out.1 HNN.out.2⟩, rfl⟩
      refine wpStages_reads ?_
      repeat (go_big_quiet_step (fail))
      refine wpQuiet_nil ?_
      clear a0 a1 k0 k1
      have ex : Ext Nix wc (wc.drewN 1) := nix_drawn wc
      have hb : Below wc.heap.size wc (wc.drewN 1) := below_drewN (Below.refl _ _) 1
      replace HP := Lib.hid (HP.out.stay hb)
      replace HM := Lib.hid (HM.out.stay hb)
      replace br := Lib.hid (br.out.stay hb)
      replace bq := Lib.hid (bq.out.stay hb)
      replace B_W0 := Lib.hid (B_W0.out.stay hb)
      clear hb
      replace ex := Lib.hid (duo_drawn wc HNN.out.1 HNN.out.2)
      refine wpStages_loud rfl ?_
      intro K hK
      have c0 := br.out.cell0
      have c1' := br.out.cell1
      have f0 := br.out.free
      go_big_op
      clear c0 c1' f0
      obtain ⟨Wr, hWr, br', p⟩ := br.out.write (.bool bp) (.slice Ap lp cp)
      rw [hWr]
      replace ex := Lib.hid (ex.out.duo1 HNN.out.1 HNN.out.2 p.ext)
      replace HP := Lib.hid (HP.out.put p)
      replace HM := Lib.hid (HM.out.put p)
      replace bq := Lib.hid (bq.out.put p HNE.out.symm)
      replace B_W0 := Lib.hid (B_W0.out.put p HGG.out.1)
      refine hK _ _ ⟨⟨_, ex.out⟩, rfl⟩ ?_
      clear hK K hWr p br
      refine wpStages_loud rfl ?_
      intro K hK
      have c0 := bq.out.cell0
      have c1' := bq.out.cell1
      have f0 := bq.out.free
      go_big_op
      clear c0 c1' f0
      obtain ⟨Wq, hWq, bq', p⟩ := bq.out.write (.bool bm) (.slice Am lm cm)
      rw [hWq]
      replace ex := Lib.hid (ex.out.duo2 HNN.out.1 HNN.out.2 p.ext)
      replace HP := Lib.hid (HP.out.put p)
      replace HM := Lib.hid (HM.out.put p)
      replace br' := Lib.hid (br'.out.put p HNE.out)
      replace B_W0 := Lib.hid (B_W0.out.put p HGG.out.2.1)
      refine hK _ _ ⟨⟨_, ex.out⟩, rfl⟩ ?_
      clear hK K hWq p bq
      refine wpStages_nil ?_
      go_wp2_with fail
      refine bodyPost_ret (v := .tuple #[.agg #[.bool bp, (.slice Ap lp cp)], .agg #[.bool bm, (.slice Am lm cm)], (.int .i64 0)]) (by
        rw [results_rec2 rfl]
        have hld := run_loadVar_row (P := Try.prog) _ r 24 24 #[.bool bp, (.slice Ap lp cp)] (0, 0) _ br'.out Try.underlying24 rfl (by kernel_rfl)
        have hld2 := run_loadVar_row (P := Try.prog) _ q 24 24 #[.bool bm, (.slice Am lm cm)] (0, 0) _ bq'.out Try.underlying24 rfl (by kernel_rfl)
        simp [asAddr, Result.andThen, hld, hld2]) rfl ?_
      exact ⟨_, _, rfl, HP.out.since HGG.out.2.2, HM.out.since HGG.out.2.2, HS.out, B_W0.out⟩
set_option maxHeartbeats 1000000 in
set_option maxRecDepth 100000 in
theorem divide_Floor_bad (u v : Value) (x y : Raw) (E : Int) (w : World) (hu : RawV w u x) (hv : RawV w v y) (hE : wrongE x y = E) (h0 : E ≠ 0) :
    Calls Try.prog 10 #[u, v] w fun e w' => e = .returned (.tuple #[none2, none2, .int .i64 E]) ∧ Below w.heap.size w w' := by
  obtain ⟨b1, A1, l1, c1, rfl, HU⟩ := hu.open
  obtain ⟨b2, A2, l2, c2, rfl, HV⟩ := hv.open
  have HE := Lib.hid (And.intro hE h0)
  have h0I : ((E : Int) == 0) = false := beq_eq_false_iff_ne.2 h0
  clear hu hv hE h0
  go_enter Try.func10, Try.ntmps10
  go_wp2_with fail
  obtain ⟨W0, g, h, r, q, hW, hg, hh, hr, hq, bx, by_, br, bq, G_g, S_W0, hb⟩ := boxH4 w (.bool b1) (.slice A1 l1 c1) (.bool b2) (.slice A2 l2 c2) (.bool false) (.slice none 0 0) (.bool false) (.slice none 0 0)
  rw [hW, hq, hr, hh, hg]
  replace HU := Lib.hid (HU.out.stay hb)
  replace HV := Lib.hid (HV.out.stay hb)
  have B_W0 := Lib.hid (show Since w W0 from hb)
  clear hW hg hh hr hq hb
  have a0 := bx.out.cell0
  have a1 := bx.out.cell1
  have k0 := by_.out.cell0
  have k1 := by_.out.cell1
  go_wp2_with fail
  refine (divide_Trunc_bad _ _ x y E W0 HU.out HV.out HE.out.1 HE.out.2).mono ?_
  rintro e w1 ⟨rfl, hb⟩
  replace bx := Lib.hid (bx.out.stay hb)
  replace by_ := Lib.hid (by_.out.stay hb)
  replace br := Lib.hid (br.out.stay hb)
  replace bq := Lib.hid (bq.out.stay hb)
  replace B_W0 := Lib.hid (B_W0.out.stay hb)
  clear hb a0 a1 k0 k1
  obtain ⟨bp, Ap, lp, cp, hn⟩ : ∃ (bp : Bool) (Ap : Option Addr) (lp cp : Nat), none2 = .agg #[.bool bp, .slice Ap lp cp] := ⟨false, none, 0, 0, rfl⟩
  obtain ⟨bm, Am, lm, cm, hm⟩ : ∃ (bp : Bool) (Ap : Option Addr) (lp cp : Nat), none2 = .agg #[.bool bp, .slice Ap lp cp] := ⟨false, none, 0, 0, rfl⟩
  have HNE2 := Lib.hid (And.intro hn hm)
  rw [show (Value.tuple #[none2, none2, .int .i64 E]) = .tuple #[.agg #[.bool bp, .slice Ap lp cp], .agg #[.bool bm, .slice Am lm cm], .int .i64 E] by rw [← hn, ← hm]]
  clear hn hm
  go_upto_region 2 with (fail)
  have HQL := Lib.hid bq.out.lt
  obtain ⟨W2, gp, gm, hW, hg, hr, bpp, bmm, G_gp, S_W2, hb⟩ := boxH2 w1 (.bool bp) (.slice Ap lp cp) (.bool bm) (.slice Am lm cm)
  rw [hW, hr, hg]
  replace br := Lib.hid (br.out.stay hb)
  replace bq := Lib.hid (bq.out.stay hb)
  replace B_W0 := Lib.hid (B_W0.out.stay hb)
  have B_W2 := Lib.hid (show Since w1 W2 from hb)
  clear hW hg hr hb
  replace HQL := Lib.hid (show q < gp ∧ gp < gm by have h1 := HQL.out; have h2 := G_gp.out; omega)
  go_upto_region 5 with (fail)
  have hne : r ≠ q := by have := G_g.out; omega
  have HGG := Lib.hid (show w.heap.size ≤ r ∧ w.heap.size ≤ q ∧ w.heap.size ≤ W0.heap.size by have h1 := G_g.out; have h2 := S_W0.out; omega)
  have HX := Lib.hid (show (gp ≠ r ∧ gp ≠ q) ∧ (gm ≠ r ∧ gm ≠ q) by have h1 := G_g.out; have h2 := HQL.out; omega)
  have HNE := Lib.hid hne
  clear hne
  have a0 := later_duo bpp.out.cell0 HX.out.1.1 HX.out.1.2
  have a1 := later_duo bpp.out.cell1 HX.out.1.1 HX.out.1.2
  have k0 := later_duo bmm.out.cell0 HX.out.2.1 HX.out.2.2
  have k1 := later_duo bmm.out.cell1 HX.out.2.1 HX.out.2.2
  have HNN := Lib.hid (And.intro br.out.nums bq.out.nums)
  haveI : Nonempty (Later (Duo r q) W2) := ⟨⟨W2, (duo_drawn W2 HNN.out.1 HNN.out.2).back⟩⟩
  refine wp_region_stages (fun w' => ∃ δ : Later (Duo r q) W2, w' = δ.world) [(false, 0), (false, 1), (false, 2), (true, 3), (true, 4)] 5 [.reads [_, _, _], .loud _, .loud _] [_] (by kernel_rfl) (by kernel_rfl) rfl rfl ?_ ?_
  · exact ⟨⟨_, duo_drawn W2 HNN.out.1 HNN.out.2⟩, rfl⟩
  refine wpStages_reads ?_
  repeat (go_big_quiet_step (fail))
  refine wpQuiet_nil ?_
  clear a0 a1 k0 k1
  have ex : Ext Nix W2 (W2.drewN 1) := nix_drawn W2
  have hb : Below W2.heap.size W2 (W2.drewN 1) := below_drewN (Below.refl _ _) 1
  replace br := Lib.hid (br.out.stay hb)
  replace bq := Lib.hid (bq.out.stay hb)
  replace B_W0 := Lib.hid (B_W0.out.stay hb)
  clear hb
  replace ex := Lib.hid (duo_drawn W2 HNN.out.1 HNN.out.2)
  refine wpStages_loud rfl ?_
  intro K hK
  have c0 := br.out.cell0
  have c1' := br.out.cell1
  have f0 := br.out.free
  go_big_op
  clear c0 c1' f0
  obtain ⟨Wr, hWr, br', p⟩ := br.out.write (.bool bp) (.slice Ap lp cp)
  rw [hWr]
  replace ex := Lib.hid (ex.out.duo1 HNN.out.1 HNN.out.2 p.ext)

  replace bq := Lib.hid (bq.out.put p HNE.out.symm)
  replace B_W0 := Lib.hid (B_W0.out.put p HGG.out.1)
  refine hK _ _ ⟨⟨_, ex.out⟩, rfl⟩ ?_
  clear hK K hWr p br
  refine wpStages_loud rfl ?_
  intro K hK
  have c0 := bq.out.cell0
  have c1' := bq.out.cell1
  have f0 := bq.out.free
  go_big_op
  clear c0 c1' f0
  obtain ⟨Wq, hWq, bq', p⟩ := bq.out.write (.bool bm) (.slice Am lm cm)
  rw [hWq]
  replace ex := Lib.hid (ex.out.duo2 HNN.out.1 HNN.out.2 p.ext)

  replace br' := Lib.hid (br'.out.put p HNE.out)
  replace B_W0 := Lib.hid (B_W0.out.put p HGG.out.2.1)
  refine hK _ _ ⟨⟨_, ex.out⟩, rfl⟩ ?_
  clear hK K hWq p bq
  refine wpStages_nil ?_
  go_wp2_with fail
  refine bodyPost_ret (v := .tuple #[.agg #[.bool bp, (.slice Ap lp cp)], .agg #[.bool bm, (.slice Am lm cm)], (.int .i64 E)]) (by
    rw [results_rec2 rfl]
    have hld := run_loadVar_row (P := Try.prog) _ r 24 24 #[.bool bp, (.slice Ap lp cp)] (0, 0) _ br'.out Try.underlying24 rfl (by kernel_rfl)
    have hld2 := run_loadVar_row (P := Try.prog) _ q 24 24 #[.bool bm, (.slice Am lm cm)] (0, 0) _ bq'.out Try.underlying24 rfl (by kernel_rfl)
    simp [asAddr, Result.andThen, hld, hld2]) rfl ?_
  rw [← HNE2.out.1, ← HNE2.out.2]
  exact ⟨rfl, B_W0.out⟩
set_option maxHeartbeats 1000000 in
set_option maxRecDepth 100000 in
theorem divide_Exact (u v : Value) (x y : Int) (w : World) (hu : IntV w u x) (hv : IntV w v y) (lx : lc x.natAbs ≤ 4096) (ly : lc y.natAbs ≤ 4096) (h0 : y ≠ 0) (hg : lc y.natAbs ≤ 1200 ∨ lc x.natAbs ≤ lc y.natAbs + 800) :
    Calls Try.prog 13 #[u, v] w fun e w' => ∃ p, e = .returned (.tuple #[p, .bool (decide (x.tmod y = 0)), .int .i64 0]) ∧ RawAt w' w.heap.size p (if x.tmod y = 0 then rawOf (x.tdiv y) else (false, [])) ∧ Below w.heap.size w w' := by
  obtain ⟨b1, A1, l1, c1, rfl, HU⟩ := hu.open
  obtain ⟨b2, A2, l2, c2, rfl, HV⟩ := hv.open
  have HLX := Lib.hid lx
  have HLY := Lib.hid ly
  have HG := Lib.hid hg
  have H0 := Lib.hid h0
  clear hu hv lx ly h0 hg
  go_enter Try.func13, Try.ntmps13
  go_wp2_with fail
  obtain ⟨W0, g, h, r, hW, hg, hh, hr, bx, by_, br, G_g, S_W0, hb⟩ := boxH3 w (.bool b1) (.slice A1 l1 c1) (.bool b2) (.slice A2 l2 c2) (.bool false) (.slice none 0 0)
  rw [hW, hr, hh, hg]
  replace HU := Lib.hid (HU.out.stay hb)
  replace HV := Lib.hid (HV.out.stay hb)
  have B_W0 := Lib.hid (show Since w W0 from hb)
  clear hW hg hh hr hb
  have a0 := bx.out.cell0
  have a1 := bx.out.cell1
  have k0 := by_.out.cell0
  have k1 := by_.out.cell1
  go_wp2_with fail
  refine (divide_Trunc _ _ x y W0 HU.out HV.out HLX.out HLY.out H0.out HG.out).mono ?_
  rintro e w1 ⟨p, q', rfl, hp, hq, hs, hb⟩
  obtain ⟨bp, Ap, lp, cp, rfl, HP⟩ := hp.open
  obtain ⟨bm, Am, lm, cm, rfl, HM⟩ := hq.open
  clear hp hq hs
  replace br := Lib.hid (br.out.stay hb)
  replace B_W0 := Lib.hid (B_W0.out.stay hb)
  clear hb a0 a1 k0 k1
  go_upto_region 2 with (fail)
  have HQL := Lib.hid br.out.lt
  obtain ⟨W2, gp, gm, hW, hg, hr, bpp, bmm, G_gp, S_W2, hb⟩ := boxH2 w1 (.bool bp) (.slice Ap lp cp) (.bool bm) (.slice Am lm cm)
  rw [hW, hr, hg]
  replace HP := Lib.hid (HP.out.stay hb)
  replace HM := Lib.hid (HM.out.stay hb)
  replace br := Lib.hid (br.out.stay hb)
  replace B_W0 := Lib.hid (B_W0.out.stay hb)
  have B_W2 := Lib.hid (show Since w1 W2 from hb)
  clear hW hg hr hb
  replace HQL := Lib.hid (show r < gp ∧ gp < gm by have h1 := HQL.out; have h2 := G_gp.out; omega)
  have HZ := Lib.hid (show lm = 0 ↔ x.tmod y = 0 by
    rw [HM.out.rawV.parts.2.1]
    constructor
    · intro h; have := limbs_eq_nil.1 (List.eq_nil_of_length_eq_zero h); omega
    · intro h; rw [h]; show (limbs 0).length = 0; rw [limbs_zero]; rfl)
  have HGG := Lib.hid (show w.heap.size ≤ r ∧ w.heap.size ≤ W0.heap.size by have h1 := G_g.out; have h2 := S_W0.out; omega)
  have a0 := bpp.out.cell0
  have a1 := bpp.out.cell1
  have k0 := bmm.out.cell0
  have k1 := bmm.out.cell1
  have c0 := br.out.cell0
  have c1 := br.out.cell1
  have fr := br.out.free
  by_cases hl : lm = 0
  · subst hl
    have HZ0 := Lib.hid (HZ.out.1 rfl)
    go_wp2_with fail
    refine bodyPost_ret (v := .tuple #[.agg #[.bool bp, (.slice Ap lp cp)], (.bool true), (.int .i64 0)]) (by
      rw [results_rec_two rfl]
      have hld := run_loadVar_row (P := Try.prog) _ r 24 24 #[.bool bp, (.slice Ap lp cp)] (0, 0) _ br.out.store Try.underlying24 rfl (by kernel_rfl)
      simp [asAddr, Result.andThen, hld]) rfl ?_
    exact ⟨_, rfl, (HP.out.since HGG.out.2).store2 br.out.nums _ _, store2_below B_W0.out HGG.out.1⟩
  · have hlI : (0 : Int) < (lm : Int) := by omega
    have HZ0 := Lib.hid (show x.tmod y ≠ 0 from fun h => hl (HZ.out.2 h))
    clear hl
    go_wp2_with fail
    refine bodyPost_ret (v := .tuple #[.agg #[.bool false, (.slice none 0 0)], (.bool false), (.int .i64 0)]) (by
      rw [results_rec_two rfl]
      have hld := run_loadVar_row (P := Try.prog) _ r 24 24 #[.bool false, (.slice none 0 0)] (0, 0) _ br.out.store Try.underlying24 rfl (by kernel_rfl)
      simp [asAddr, Result.andThen, hld]) rfl ?_
    exact ⟨_, rfl, RawAt.zero _ _, store2_below B_W0.out HGG.out.1⟩
set_option maxHeartbeats 1000000 in
set_option maxRecDepth 100000 in
theorem divide_Exact_bad (u v : Value) (x y : Raw) (E : Int) (w : World) (hu : RawV w u x) (hv : RawV w v y) (hE : wrongE x y = E) (h0 : E ≠ 0) :
    Calls Try.prog 13 #[u, v] w fun e w' => e = .returned (.tuple #[none2, .bool false, .int .i64 E]) ∧ Below w.heap.size w w' := by
  obtain ⟨b1, A1, l1, c1, rfl, HU⟩ := hu.open
  obtain ⟨b2, A2, l2, c2, rfl, HV⟩ := hv.open
  have HE := Lib.hid (And.intro hE h0)
  have h0I : ((E : Int) != 0) = true := by rw [bne_iff_ne]; exact h0
  clear hu hv hE h0
  go_enter Try.func13, Try.ntmps13
  go_wp2_with fail
  obtain ⟨W0, g, h, r, hW, hg, hh, hr, bx, by_, br, G_g, S_W0, hb⟩ := boxH3 w (.bool b1) (.slice A1 l1 c1) (.bool b2) (.slice A2 l2 c2) (.bool false) (.slice none 0 0)
  rw [hW, hr, hh, hg]
  replace HU := Lib.hid (HU.out.stay hb)
  replace HV := Lib.hid (HV.out.stay hb)
  have B_W0 := Lib.hid (show Since w W0 from hb)
  clear hW hg hh hr hb
  have a0 := bx.out.cell0
  have a1 := bx.out.cell1
  have k0 := by_.out.cell0
  have k1 := by_.out.cell1
  go_wp2_with fail
  refine (divide_Trunc_bad _ _ x y E W0 HU.out HV.out HE.out.1 HE.out.2).mono ?_
  rintro e w1 ⟨rfl, hb⟩
  replace br := Lib.hid (br.out.stay hb)
  replace B_W0 := Lib.hid (B_W0.out.stay hb)
  clear hb a0 a1 k0 k1
  unfold none2
  go_upto_region 2 with (fail)
  obtain ⟨W2, gp, gm, hW, hg, hr, bpp, bmm, G_gp, S_W2, hb⟩ := boxH2 w1 (.bool false) (.slice none 0 0) (.bool false) (.slice none 0 0)
  rw [hW, hr, hg]
  replace br := Lib.hid (br.out.stay hb)
  replace B_W0 := Lib.hid (B_W0.out.stay hb)
  have B_W2 := Lib.hid (show Since w1 W2 from hb)
  clear hW hg hr hb
  have HGG := Lib.hid (show w.heap.size ≤ r by have h1 := G_g.out; omega)
  have c0 := br.out.cell0
  have c1 := br.out.cell1
  have fr := br.out.free
  go_wp2_with fail
  refine bodyPost_ret (v := .tuple #[.agg #[.bool false, (.slice none 0 0)], (.bool false), (.int .i64 E)]) (by
    rw [results_rec_two rfl]
    have hld := run_loadVar_row (P := Try.prog) _ r 24 24 #[.bool false, (.slice none 0 0)] (0, 0) _ br.out.store Try.underlying24 rfl (by kernel_rfl)
    simp [asAddr, Result.andThen, hld]) rfl ?_
  exact ⟨rfl, store2_below B_W0.out HGG.out⟩
/-- Mod's errno and answer. -/
def modE (y : Int) : Int := if y < 0 then 2 else 0
def modR (x y : Int) : Raw := if y < 0 then (false, []) else rawOf (x.fmod y)
set_option maxHeartbeats 1000000 in
set_option maxRecDepth 100000 in
theorem divide_Mod (u v : Value) (x y : Int) (w : World) (hu : IntV w u x) (hv : IntV w v y) (lx : lc x.natAbs ≤ 4096) (ly : lc y.natAbs ≤ 4096) (h0 : y ≠ 0) (hg : lc y.natAbs ≤ 1200 ∨ lc x.natAbs ≤ lc y.natAbs + 800) :
    Calls Try.prog 14 #[u, v] w fun e w' => ∃ p, e = .returned (.tuple #[p, .int .i64 (modE y)]) ∧ RawAt w' w.heap.size p (modR x y) ∧ Below w.heap.size w w' := by
  obtain ⟨b1, A1, l1, c1, rfl, HU⟩ := hu.open
  obtain ⟨b2, A2, l2, c2, rfl, HV⟩ := hv.open
  have HP2 := Lib.hid HV.out.parts.1
  have HLX := Lib.hid lx
  have HLY := Lib.hid ly
  have HG := Lib.hid hg
  have H0 := Lib.hid h0
  clear hu hv lx ly h0 hg
  go_enter Try.func14, Try.ntmps14
  go_wp2_with fail
  obtain ⟨W0, g, h, r, hW, hg, hh, hr, bx, by_, br, G_g, S_W0, hb⟩ := boxH3 w (.bool b1) (.slice A1 l1 c1) (.bool b2) (.slice A2 l2 c2) (.bool false) (.slice none 0 0)
  rw [hW, hr, hh, hg]
  replace HU := Lib.hid (HU.out.stay hb)
  replace HV := Lib.hid (HV.out.stay hb)
  have B_W0 := Lib.hid (show Since w W0 from hb)
  clear hW hg hh hr hb
  have a0 := bx.out.cell0
  have a1 := bx.out.cell1
  have k0 := by_.out.cell0
  have k1 := by_.out.cell1
  go_wp2_with fail
  refine (divide_Floor _ _ x y W0 HU.out HV.out HLX.out HLY.out H0.out HG.out).mono ?_
  rintro e w1 ⟨p, q', rfl, hp, hq, hs, hb⟩
  obtain ⟨bp, Ap, lp, cp, rfl, HP⟩ := hp.open
  obtain ⟨bm, Am, lm, cm, rfl, HM⟩ := hq.open
  clear hp hq hs
  replace by_ := Lib.hid (by_.out.stay hb)
  replace br := Lib.hid (br.out.stay hb)
  replace B_W0 := Lib.hid (B_W0.out.stay hb)
  clear hb a0 a1 k0 k1
  go_upto_region 2 with (fail)
  obtain ⟨W2, gp, gm, hW, hg, hr, bpp, bmm, G_gp, S_W2, hb⟩ := boxH2 w1 (.bool bp) (.slice Ap lp cp) (.bool bm) (.slice Am lm cm)
  rw [hW, hr, hg]
  replace HM := Lib.hid (HM.out.stay hb)
  replace by_ := Lib.hid (by_.out.stay hb)
  replace br := Lib.hid (br.out.stay hb)
  replace B_W0 := Lib.hid (B_W0.out.stay hb)
  have B_W2 := Lib.hid (show Since w1 W2 from hb)
  clear hW hg hr hb
  have HGG := Lib.hid (show w.heap.size ≤ r ∧ w.heap.size ≤ W0.heap.size by have h1 := G_g.out; have h2 := S_W0.out; omega)
  have a0 := by_.out.cell0
  have a1 := by_.out.cell1
  have k0 := bmm.out.cell0
  have k1 := bmm.out.cell1
  have c0 := br.out.cell0
  have c1 := br.out.cell1
  have fr := br.out.free
  by_cases hy : y < 0
  · obtain rfl : b2 = true := by rw [HP2.out]; exact decide_eq_true hy
    have HY := Lib.hid hy
    clear hy
    go_wp2_with fail
    refine bodyPost_ret (v := .tuple #[.agg #[.bool false, (.slice none 0 0)], (.int .i64 2)]) (by
      rw [results_cell_tmp rfl]
      have hld := run_loadVar_row (P := Try.prog) _ r 24 24 #[.bool false, (.slice none 0 0)] (0, 0) _ br.out.store Try.underlying24 rfl (by kernel_rfl)
      simp [asAddr, Result.andThen, hld]) rfl ?_
    have e1 : modE y = 2 := if_pos HY.out
    have e2 : modR x y = (false, []) := if_pos HY.out
    rw [e1, e2]
    exact ⟨_, rfl, RawAt.zero _ _, store2_below B_W0.out HGG.out.1⟩
  · obtain rfl : b2 = false := by rw [HP2.out]; exact decide_eq_false hy
    have HY := Lib.hid hy
    clear hy
    go_wp2_with fail
    refine bodyPost_ret (v := .tuple #[.agg #[.bool bm, (.slice Am lm cm)], (.int .i64 0)]) (by
      rw [results_cell_tmp rfl]
      have hld := run_loadVar_row (P := Try.prog) _ r 24 24 #[.bool bm, (.slice Am lm cm)] (0, 0) _ br.out.store Try.underlying24 rfl (by kernel_rfl)
      simp [asAddr, Result.andThen, hld]) rfl ?_
    have e1 : modE y = 0 := if_neg (by have := HY.out; omega)
    have e2 : modR x y = rawOf (x.fmod y) := if_neg (by have := HY.out; omega)
    rw [e1, e2]
    exact ⟨_, rfl, (HM.out.since HGG.out.2).store2 br.out.nums _ _, store2_below B_W0.out HGG.out.1⟩
set_option maxHeartbeats 1000000 in
set_option maxRecDepth 100000 in
theorem divide_Mod_bad (u v : Value) (x y : Raw) (E : Int) (w : World) (hu : RawV w u x) (hv : RawV w v y) (hE : wrongE x y = E) (h0 : E ≠ 0) :
    Calls Try.prog 14 #[u, v] w fun e w' => e = .returned (.tuple #[none2, .int .i64 E]) ∧ Below w.heap.size w w' := by
  obtain ⟨b1, A1, l1, c1, rfl, HU⟩ := hu.open
  obtain ⟨b2, A2, l2, c2, rfl, HV⟩ := hv.open
  have HE := Lib.hid (And.intro hE h0)
  have h0I : ((E : Int) != 0) = true := by rw [bne_iff_ne]; exact h0
  have h0J : ((E : Int) == 0) = false := beq_eq_false_iff_ne.2 h0
  clear hu hv hE h0
  go_enter Try.func14, Try.ntmps14
  go_wp2_with fail
  obtain ⟨W0, g, h, r, hW, hg, hh, hr, bx, by_, br, G_g, S_W0, hb⟩ := boxH3 w (.bool b1) (.slice A1 l1 c1) (.bool b2) (.slice A2 l2 c2) (.bool false) (.slice none 0 0)
  rw [hW, hr, hh, hg]
  replace HU := Lib.hid (HU.out.stay hb)
  replace HV := Lib.hid (HV.out.stay hb)
  have B_W0 := Lib.hid (show Since w W0 from hb)
  clear hW hg hh hr hb
  have a0 := bx.out.cell0
  have a1 := bx.out.cell1
  have k0 := by_.out.cell0
  have k1 := by_.out.cell1
  go_wp2_with fail
  refine (divide_Floor_bad _ _ x y E W0 HU.out HV.out HE.out.1 HE.out.2).mono ?_
  rintro e w1 ⟨rfl, hb⟩
  replace br := Lib.hid (br.out.stay hb)
  replace B_W0 := Lib.hid (B_W0.out.stay hb)
  clear hb a0 a1 k0 k1
  unfold none2
  go_upto_region 2 with (fail)
  obtain ⟨W2, gp, gm, hW, hg, hr, bpp, bmm, G_gp, S_W2, hb⟩ := boxH2 w1 (.bool false) (.slice none 0 0) (.bool false) (.slice none 0 0)
  rw [hW, hr, hg]
  replace br := Lib.hid (br.out.stay hb)
  replace B_W0 := Lib.hid (B_W0.out.stay hb)
  have B_W2 := Lib.hid (show Since w1 W2 from hb)
  clear hW hg hr hb
  have HGG := Lib.hid (show w.heap.size ≤ r by have h1 := G_g.out; omega)
  have c0 := br.out.cell0
  have c1 := br.out.cell1
  have fr := br.out.free
  go_wp2_with fail
  refine bodyPost_ret (v := .tuple #[.agg #[.bool false, (.slice none 0 0)], (.int .i64 E)]) (by
    rw [results_cell_tmp rfl]
    have hld := run_loadVar_row (P := Try.prog) _ r 24 24 #[.bool false, (.slice none 0 0)] (0, 0) _ br.out.store Try.underlying24 rfl (by kernel_rfl)
    simp [asAddr, Result.andThen, hld]) rfl ?_
  exact ⟨rfl, store2_below B_W0.out HGG.out⟩
end Go.Proofs.Ytonbhpadoplpkaa
