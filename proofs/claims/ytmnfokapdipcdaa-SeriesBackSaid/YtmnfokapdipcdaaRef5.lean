import Derived.Test.YtmnfokapdipcdaaRef4
/- The package rosetteref00: numbers of any sign. -/
namespace Go.Proofs.Ytmnfokapdipcdaa
open Go.RowKit Go.Deep
/-- The value v is the number z (of exponent 0). -/
def NumAt (w : World) (v : Value) (z : Int) : Prop :=
  ∃ b A l c, v = .agg #[.bool b, .slice A l c, .int .i64 0] ∧ l = (limbs z.natAbs).length ∧ l ≤ c ∧ Lim w w.heap.size A (limbs z.natAbs) ∧ signed b z.natAbs = z ∧ Own w 0 (.slice A l c) (limbs z.natAbs)
theorem NumAt.below {w w' : World} {v : Value} {z : Int} (h : NumAt w v z) (hb : Below w.heap.size w w') : NumAt w' v z := by
  obtain ⟨b, A, l, c, e, hl, hc, hlim, hs, ho⟩ := h
  exact ⟨b, A, l, c, e, hl, hc, (hlim.below hb).more hb.size, hs, ho.below hb⟩
theorem NumAt.of {w : World} {b : Bool} {A : Option Addr} {l c n : Nat} (hl : l = (limbs n).length) (hc : l ≤ c) (hlim : Lim w w.heap.size A (limbs n)) (ho : Own w 0 (.slice A l c) (limbs n)) : NumAt w (.agg #[.bool b, .slice A l c, .int .i64 0]) (signed b n) :=
  ⟨b, A, l, c, rfl, by rw [signed_natAbs]; exact hl, hc, by rw [signed_natAbs]; exact hlim, by rw [signed_natAbs], by rw [signed_natAbs]; exact ho⟩
section
variable {w w' : World} {g : Nat} {x y z a b c : Value} {t : TypeId}
/-- A box of three cells. -/
def Box3 (w : World) (g : Nat) (t : TypeId) (x y z : Value) : Prop := w.heap[g]? = some (.cells #[x, y, z] t (0, 0))
theorem Box3.below {B : Nat} (h : Box3 w g t x y z) (hb : Below B w w') (hg : g < B) : Box3 w' g t x y z := by
  unfold Box3 at h ⊢
  rw [hb.block g hg]; exact h
theorem Box3.cell0 (h : Box3 w g t x y z) : w.cell? ⟨g, 0, none⟩ = some x := by rw [cell_of_row w g 0 _ _ (0, 0) h]; rfl
theorem Box3.cell1 (h : Box3 w g t x y z) : w.cell? ⟨g, 1, none⟩ = some y := by rw [cell_of_row w g 1 _ _ (0, 0) h]; rfl
theorem Box3.cell2 (h : Box3 w g t x y z) : w.cell? ⟨g, 2, none⟩ = some z := by rw [cell_of_row w g 2 _ _ (0, 0) h]; rfl
theorem Box3.free (h : Box3 w g t x y z) (k : Nat) : w.frozen? ⟨g, k, none⟩ = false := by
  unfold Box3 at h
  simp [World.frozen?, h]
theorem Box3.lt (h : Box3 w g t x y z) : g < w.heap.size := (Array.getElem?_eq_some_iff.1 h).1
theorem Box3.store (h : Box3 w g t x y z) : Box3 (((w.setCell ⟨g, 0, none⟩ a).setCell ⟨g, 1, none⟩ b).setCell ⟨g, 2, none⟩ c) g t a b c := by
  unfold Box3 at h ⊢
  simp [World.setCell, Array.getElem?_modify, h]
theorem store3_below {B : Nat} (hb : Below B w w') (hg : B ≤ g) : Below B w (((w'.setCell ⟨g, 0, none⟩ a).setCell ⟨g, 1, none⟩ b).setCell ⟨g, 2, none⟩ c) :=
  ((hb.setCell (p := ⟨g, 0, none⟩) hg _).setCell (p := ⟨g, 1, none⟩) hg _).setCell (p := ⟨g, 2, none⟩) hg _
theorem Box3.new (w : World) (o : Obj) (x y z : Value) (t : TypeId) : Box3 ((w.alloc o).alloc (.cells #[x, y, z] t)) (w.heap.size + 1) t x y z := by
  have h := heap_alloc_new (w.alloc o) (.cells #[x, y, z] t)
  rwa [show (w.alloc o).heap.size = w.heap.size + 1 by simp] at h
end
theorem Lim.store3 {w : World} {B g : Nat} {a b c : Value} {A : Option Addr} {xs : List Nat} (h : Lim w B A xs) (hB : B ≤ g) : Lim (((w.setCell ⟨g, 0, none⟩ a).setCell ⟨g, 1, none⟩ b).setCell ⟨g, 2, none⟩ c) B A xs :=
  h.below (((Below.refl B w |>.setCell (p := ⟨g, 0, none⟩) hB _).setCell (p := ⟨g, 1, none⟩) hB _).setCell (p := ⟨g, 2, none⟩) hB _)
/-- Limbs of a row of one's own stay where a box is written. -/
theorem Own.store3 {w : World} {base g : Nat} {x y z a b c v : Value} {ys : List Nat} (h : Own w base v ys) (hx : Box3 w g 79 x y z) : Own (((w.setCell ⟨g, 0, none⟩ a).setCell ⟨g, 1, none⟩ b).setCell ⟨g, 2, none⟩ c) base v ys := by
  have hne : ∀ k, v.ownBlock = some k → k ≠ g := by
    intro k hk e
    subst e
    obtain ⟨cs, hc⟩ := h.type hk
    unfold Box3 at hx
    rw [hc] at hx
    simp at hx
  exact ((h.far ⟨g, 0, none⟩ _ hne).far ⟨g, 1, none⟩ _ hne).far ⟨g, 2, none⟩ _ hne
set_option maxRecDepth 100000 in
theorem num_zero (v : Value) (z : Int) (w : World) (h : NumAt w v z) (hl : (limbs z.natAbs).length ≤ 137438953472) :
    Calls Try.prog 109 #[v] w fun e w' => e = .returned (.bool (decide (z = 0))) ∧ Below w.heap.size w w' := by
  obtain ⟨b, A, l, c, rfl, hlen, hc, hlim, hs, hown⟩ := h
  have HLEN := Lib.hid hlen
  have HC := Lib.hid hc
  have HL := Lib.hid hl
  have HE := Lib.hid (show ((nbits z.natAbs : Nat) : Int) = 0 ↔ z = 0 by
    constructor
    · intro h0
      by_cases hz : z.natAbs = 0
      · omega
      · have := nbits_pos hz
        omega
    · intro h0; subst h0; rfl)
  clear hlen hc hl hs
  go_enter Try.func109, Try.ntmps109
  go_wp2_with fail
  have hb0 : Below w.heap.size w (w.alloc (.cells #[.bool b, .slice A l c, .int .i64 0] 79)) := (Below.refl _ w).alloc (Nat.le_refl _) _
  refine (ref_bits A l c (limbs z.natAbs) _ ((hlim.below hb0).more hb0.size) HLEN.out HC.out (by have := HL.out; have := HLEN.out; omega)).mono ?_
  rintro e w1 ⟨rfl, hb1⟩
  rw [val_limbs]
  obtain ⟨nb, hnb⟩ : ∃ nb : Int, ((nbits z.natAbs : Nat) : Int) = nb := ⟨_, rfl⟩
  have HNB := Lib.hid hnb
  rw [hnb]
  clear hnb
  go_wp2_with fail
  go_ret
  refine ⟨?_, hb0.trans (hb1.mono hb0.size)⟩
  have h1 := HE.out
  rw [HNB.out] at h1
  by_cases h0 : nb = 0
  · rw [decide_eq_true (h1.1 h0), h0]; rfl
  · rw [decide_eq_false (fun e => h0 (h1.2 e))]
    have t0 : (nb == 0) = false := beq_eq_false_iff_ne.2 h0
    show Ending.returned (.bool (nb == 0)) = _
    rw [t0]
set_option maxRecDepth 100000 in
theorem num_minus (v : Value) (z : Int) (w : World) (h : NumAt w v z) :
    Calls Try.prog 122 #[v] w fun e w' => ∃ v', e = .returned v' ∧ NumAt w' v' (-z) ∧ Below w.heap.size w w' := by
  obtain ⟨b, A, l, c, rfl, hlen, hc, hlim, hs, hown⟩ := h
  have HLEN := Lib.hid hlen
  have HC := Lib.hid hc
  have HS := Lib.hid hs
  clear hlen hc hs
  go_enter Try.func122, Try.ntmps122
  go_wp2_with fail
  have hg := heap_alloc_new (w.alloc (.cells #[.bool b, .slice A l c, .int .i64 0] 79)) (.cells #[.bool (!b), .slice A l c, .int .i64 0] 79)
  rw [show (w.alloc (.cells #[.bool b, .slice A l c, .int .i64 0] 79)).heap.size = w.heap.size + 1 by simp] at hg
  have hbw : Below w.heap.size w ((w.alloc (.cells #[.bool b, .slice A l c, .int .i64 0] 79)).alloc (.cells #[.bool (!b), .slice A l c, .int .i64 0] 79)) := ((Below.refl _ w).alloc (Nat.le_refl _) _).alloc (by simp) _
  refine bodyPost_ret (results_cell_row rfl _ _ (w.heap.size + 1) 79 #[.bool (!b), (.slice A l c), .int .i64 0] (0, 0) _ (by rfl) hg Try.underlying79 rfl (by kernel_rfl)) rfl ?_
  refine ⟨_, rfl, ?_, hbw⟩
  rw [show -z = signed (!b) z.natAbs by
    have h := HS.out
    cases b
    · have h : (z.natAbs : Int) = z := h
      show -z = -(z.natAbs : Int)
      rw [h]
    · have h : -(z.natAbs : Int) = z := h
      show -z = (z.natAbs : Int)
      omega]
  exact NumAt.of HLEN.out HC.out ((hlim.below hbw).more hbw.size) (hown.below hbw)
set_option maxRecDepth 100000 in
theorem num_int (b : Bool) (A : Option Addr) (l c : Nat) (xs : List Nat) (w : World) (h1 : Lim w w.heap.size A xs) (e1 : l = xs.length) (hc : l ≤ c) (hl : l ≤ 137438953472) :
    Calls Try.prog 111 #[.agg #[.bool b, .slice A l c]] w fun e w' => ∃ v', e = .returned v' ∧ NumAt w' v' (signed b (val xs)) ∧ Below w.heap.size w w' := by
  have E1 := Lib.hid e1
  have HC := Lib.hid hc
  have HL := Lib.hid hl
  clear e1 hc hl
  go_enter Try.func111, Try.ntmps111
  go_upto_region 1 with (fail)
  have c0 : ((w.alloc (.cells #[.bool b, .slice A l c] 36)).alloc (.cells #[.bool false, .slice none 0 0, .int .i64 0] 79)).cell? ⟨w.heap.size, 0, none⟩ = some (.bool b) := by
    rw [cell_of_row _ _ 0 #[.bool b, .slice A l c] 36 (0, 0)]
    · rfl
    · rw [Below.heap_alloc _ _ _ (by simp)]; exact heap_alloc_new w _
  have c1 : ((w.alloc (.cells #[.bool b, .slice A l c] 36)).alloc (.cells #[.bool false, .slice none 0 0, .int .i64 0] 79)).cell? ⟨w.heap.size, 1, none⟩ = some (.slice A l c) := by
    rw [cell_of_row _ _ 1 #[.bool b, .slice A l c] 36 (0, 0)]
    · rfl
    · rw [Below.heap_alloc _ _ _ (by simp)]; exact heap_alloc_new w _
  have hbx := Box3.new w (.cells #[.bool b, .slice A l c] 36) (.bool false) (.slice none 0 0) (.int .i64 0) 79
  have hbw : Below w.heap.size w ((w.alloc (.cells #[.bool b, .slice A l c] 36)).alloc (.cells #[.bool false, .slice none 0 0, .int .i64 0] 79)) := ((Below.refl _ w).alloc (Nat.le_refl _) _).alloc (by simp) _
  generalize (w.alloc (.cells #[.bool b, .slice A l c] 36)).alloc (.cells #[.bool false, .slice none 0 0, .int .i64 0] 79) = W0 at c0 c1 hbx hbw ⊢
  obtain ⟨g0, hg0⟩ : ∃ g0, w.heap.size = g0 := ⟨_, rfl⟩
  obtain ⟨g, hg⟩ : ∃ g, g0 + 1 = g := ⟨_, rfl⟩
  have HW := Lib.hid hbw
  rw [hg0] at c0 c1 hbx hbw ⊢
  rw [hg] at hbx ⊢
  have HG := Lib.hid (show w.heap.size ≤ g ∧ w.heap.size = g0 by omega)
  have r0 := later_cell c0
  have r1 := later_cell c1
  have hlim0 := (h1.below HW.out).more HW.out.size
  clear hg0 hg
  go_wp2_with fail
  refine wp_region_stages (fun w' => ∃ δ : Later Nix W0, w' = δ.world) [(false, 0), (false, 1), (false, 2), (false, 3), (true, 4)] 5 [.reads [_, _, _, _], .loud _] [_, _] (by kernel_rfl) (by kernel_rfl) rfl rfl ?_ ?_
  · exact ⟨⟨_, nix_drawn W0⟩, rfl⟩
  refine wpStages_reads ?_
  repeat (go_big_quiet_step (fail))
  refine wpQuiet_nil ?_
  refine wpStages_loud rfl ?_
  intro K hK
  go_big_op
  refine (ref_trim A l c xs (W0.drewN 1) (hlim0.drewN 1) E1.out HC.out (by have := HL.out; omega)).mono ?_
  rintro e w1 ⟨v1, rfl, ho1, hb1⟩
  have he1 : Ext Nix W0 w1 := (nix_drawn W0).later (Ext.of_below hb1)
  refine hK _ _ ⟨⟨w1, he1⟩, rfl⟩ ?_
  clear hK K
  refine wpStages_nil ?_
  have hbx1 := hbx.below he1.below hbx.lt
  have d0 := hbx1.cell0
  have d1 := hbx1.cell1
  have d2 := hbx1.cell2
  have f0 := hbx1.free
  obtain ⟨A1, c3, rfl, hc3, hlim3, _⟩ := ho1.form
  obtain ⟨m, hm⟩ : ∃ m, (limbs (val xs)).length = m := ⟨_, rfl⟩
  have HM := Lib.hid hm
  have HO := Lib.hid ho1
  rw [hm] at hc3 ⊢
  have HC3 := Lib.hid hc3
  clear hm ho1 hc3 c0 c1 r0 r1
  go_wp2_with fail
  have hst := hbx1.store (a := .bool b) (b := .slice A1 m c3) (c := .int .i64 0)
  refine bodyPost_ret (results_cell_row rfl _ _ g 79 #[.bool b, (.slice A1 m c3), .int .i64 0] (0, 0) _ (by rfl) hst Try.underlying79 rfl (by kernel_rfl)) rfl ?_
  have hbF : Below w.heap.size w w1 := HW.out.trans (he1.below.mono HW.out.size)
  have hbE := store3_below (a := .bool b) (b := .slice A1 m c3) (c := .int .i64 0) hbF HG.out.1
  refine ⟨_, rfl, ?_, hbE⟩
  have hown2 := HO.out.store3 (a := .bool b) (b := .slice A1 m c3) (c := .int .i64 0) hbx1
  obtain ⟨A9, c9, e9, _, hlim9, _⟩ := hown2.form
  injection e9 with e91 e92 e93
  subst e91
  exact NumAt.of HM.out.symm HC3.out hlim9 (by have h := hown2.mono (Nat.zero_le _); rwa [HM.out] at h)
end Go.Proofs.Ytmnfokapdipcdaa
