import Derived.Test.YtonbhpadoplpkaaGreatStay
/- The package rosettekit: what is lent (limbs with marks behind them), and whether it was kept. -/
namespace Go.Proofs.YtonbhpadoplpkaaGreat
open Go.RowKit Go.Deep
/-- The marks behind what is lent. -/
def markN (i : Nat) : Nat := 8000024 + i
def marks (n : Nat) : List Nat := (List.range n).map markN
theorem marks_length (n : Nat) : (marks n).length = n := by simp [marks]
theorem marks_succ (n : Nat) : marks (n + 1) = marks n ++ [markN n] := by simp [marks, List.range_succ]
theorem markN_lt {i : Nat} (h : i ≤ 4294967296) : markN i < W64 := by unfold markN; rw [W64_eq]; omega
theorem marks_getD {n i : Nat} (h : i < n) : (marks n).getD i 0 = markN i := by simp [marks, h]
theorem lent_getD_lo {xs ms : List Nat} {i : Nat} (h : i < xs.length) : (xs ++ ms).getD i 0 = xs.getD i 0 := by
  simp [List.getElem?_append_left h]
theorem lent_getD_hi {xs : List Nat} {i j n : Nat} (hi : i = xs.length + j) (h : j < n) : (xs ++ marks n).getD i 0 = markN j := by
  subst hi
  rw [List.getD_eq_getElem?_getD, List.getElem?_append_right (by omega), Nat.add_sub_cancel_left, ← List.getD_eq_getElem?_getD, marks_getD h]
theorem make_limbs_cap0 (c : Nat) (h : c ≤ 35184372088832) : ∀ W : World, (Instr.makeSlice 22 (.int .i64 0) (.int .i64 (c : Int))).run Tryz.prog W = .ok (.slice (some ⟨W.heap.size, 0, none⟩) 0 c) (W.alloc (.cells (madeCells #[.int .u64 0] c) 85)) := by
  intro W
  obtain ⟨i0, hi, hz0, hz1, hz2⟩ := info_parts info_u64
  have hr := run_make (P := Tryz.prog) W 22 85 i0 (.int .u64 0) Tryz.underlying22 hi hz0 .i64 .i64 0 c (by omega) (by omega) (by rw [hz2]; omega) (by omega)
  simp only [Int.toNat_natCast, hz1, Nat.mul_one] at hr
  exact hr
theorem kit_mark (k i : Nat) (w : World) (hk : k ≤ 1000) (hi : i ≤ 1000000000000) :
    Calls Tryz.prog 87 #[.int .i64 (k : Int), .int .i64 (i : Int)] w fun e w' => e = .returned (.int .i64 (1000003 * ((k : Int) + 7) + (i : Int))) ∧ w = w' := by
  have hkI : (k : Int) ≤ 1000 := by omega
  have hiI : (i : Int) ≤ 1000000000000 := by omega
  clear hk hi
  go_enter Tryz.func87, Tryz.ntmps87
  go_wp2_with fail
  go_ret
  exact ⟨rfl, rfl⟩
set_option maxRecDepth 100000 in
theorem kit_lent (A : Option Addr) (l c : Nat) (xs : List Nat) (w : World) (h1 : Lim w w.heap.size A xs) (e1 : l = xs.length) (hl : l ≤ 1099511627776) :
    Calls Tryz.prog 46 #[.slice A l c] w fun e w' => ∃ A' c', e = .returned (.slice A' l c') ∧ l + 12 ≤ c' ∧ Lim w' w'.heap.size A' (xs ++ marks 12) ∧ Fresh w' w.heap.size A' c' ∧ Below w.heap.size w w' := by
  have hmk := make_limbs_cap0 (l + 12) (by omega)
  rw [Int.natCast_add, show ((12 : Nat) : Int) = 12 from rfl] at hmk
  have hlI : (l : Int) ≤ 1099511627776 := by omega
  have H1 := Lib.hid h1
  have E1 := Lib.hid e1
  clear h1 e1 hl
  go_enter Tryz.func46, Tryz.ntmps46
  go_upto_region 2 with (fail)
  obtain ⟨W0, hW0⟩ : ∃ W, w.alloc (.cells (madeCells #[.int .u64 0] (l + 12)) 85) = W := ⟨_, rfl⟩
  have hb0 : Below w.heap.size w W0 := by rw [← hW0]; exact (Below.refl _ _).alloc (Nat.le_refl _) _
  have HO := Lib.hid (show Own W0 w.heap.size (.slice (some ⟨w.heap.size, 0, none⟩) 0 (l + 12)) [] by rw [← hW0]; exact Own.made w w.heap.size 0 (l + 12) (Nat.le_refl _) (by omega) (by omega))
  have HB := Lib.hid hb0
  rw [hW0]
  clear hW0 hb0 hmk
  go_wp2_with (at_builtin; refine append_lim (w0 := w) w.heap.size rfl _ _ rfl _ [] A l c xs (by rfl) (by rfl) E1.out (H1.out.below HB.out) HO.out HB.out HB.out.size (by have := E1.out; simp; omega) fun v1 w1 hown hbel hgrow _ => ?_)
  have HO1 := Lib.hid (show Own w1 w.heap.size v1 (xs ++ marks 0) by simpa [marks] using hown)
  have HB1 := Lib.hid hbel
  clear hown hbel hgrow HO HB
  go_wp2_with fail
  go_loopw [3, 4] (fun t3 t4 wr => ∃ k : Nat, k ≤ 12 ∧ t4 = .int .i64 (k : Int) ∧ Hid (Own wr w.heap.size t3 (xs ++ marks k)) ∧ Hid (Below w.heap.size w wr)) (fun _ t4 _ => 12 - (intOf t4).toNat)
  case atStart => exact ⟨0, by omega, rfl, HO1, HB1⟩
  case round =>
    clear HO1 HB1
    obtain ⟨k, hk, rfl, HO, HB⟩ := hrel
    by_cases hlt : k < 12
    · have hltI : (k : Int) < 12 := by omega
      go_wp2_with fail
      refine (kit_mark 1 k _ (by omega) (by omega)).mono ?_
      rintro e w2 ⟨rfl, rfl⟩
      have e1 : 1000003 * (((1 : Nat) : Int) + 7) + (k : Int) = (markN k : Int) := by unfold markN; omega
      rw [e1]
      have HM := Lib.hid (markN_lt (i := k) (by omega))
      have HS := Lib.hid (show (xs ++ marks k).length + 1 ≤ 17592186044416 by rw [List.length_append, marks_length, ← E1.out]; omega)
      have mI := lt_W64 HM.out
      obtain ⟨m, hm⟩ : ∃ m, markN k = m := ⟨_, rfl⟩
      rw [hm] at HM mI ⊢
      have HMK := Lib.hid hm
      clear hm e1
      obtain ⟨A3, k3, c3, rfl⟩ := HO.out.slice
      go_wp2_with (at_builtin; refine append_one (w0 := w) w.heap.size rfl _ _ rfl _ (xs ++ marks k) m (by rfl) (by rfl) HM.out HO.out HB.out HB.out.size HS.out fun v2 w2 hown hbel _ => ?_)
      go_wp2_with fail
      exact ⟨⟨k + 1, by omega, by go_num, Lib.hid (by rw [marks_succ, ← List.append_assoc, HMK.out]; exact hown), Lib.hid hbel⟩, by simp [intOf]; omega⟩
    · obtain rfl : k = 12 := by omega
      obtain ⟨A3, c3, hv, hc, hlim, _⟩ := HO.out.form
      subst hv
      have HF := Lib.hid HO.out.fresh
      have HC := Lib.hid (show l + 12 ≤ c3 by rw [List.length_append, marks_length, ← E1.out] at hc; exact hc)
      have HL := Lib.hid hlim
      have hcI : (l : Int) ≤ (c3 : Int) := by have := HC.out; omega
      clear hlim hc
      go_wp2_with fail
      go_ret
      exact ⟨A3, c3, rfl, HC.out, HL.out, HF.out, HB.out⟩
theorem wraps_sub {l j : Nat} (h : j ≤ 1000000) : IntKind.i64.wrap ((l : Int) + (j : Int) - (l : Int)) = (j : Int) ∧ wrap64 ((l : Int) + (j : Int) - (l : Int)) = (j : Int) := by
  have e : (l : Int) + (j : Int) - (l : Int) = (j : Int) := by omega
  rw [e]
  exact ⟨by rw [IntKind.wrap_i64]; omega, by unfold wrap64; omega⟩
set_option maxHeartbeats 1000000 in
set_option maxRecDepth 100000 in
theorem kit_kept (A1 A2 : Option Addr) (l c1 c2 : Nat) (xs : List Nat) (w : World) (h1 : Lim w w.heap.size A1 (xs ++ marks 12)) (h2 : Lim w w.heap.size A2 xs) (e1 : l = xs.length) (hc : l + 12 ≤ c1) (hl : l ≤ 1099511627776) :
    Calls Tryz.prog 52 #[.slice A1 l c1, .slice A2 l c2] w fun e w' => e = .returned (.bool true) ∧ Below w.heap.size w w' := by
  have hlI : (l : Int) ≤ 1099511627776 := by omega
  have hcI : (l : Int) + 12 ≤ (c1 : Int) := by omega
  have E1 := Lib.hid e1
  have H1 := Lib.hid h1
  have H2 := Lib.hid h2
  have ha := h1.at_ (k := 0) (by rw [List.length_append, marks_length]; omega)
  obtain ⟨ad, rfl, _, _⟩ := ha
  clear h1 h2 e1 hl hc
  go_enter Tryz.func52, Tryz.ntmps52
  go_wp2_with fail
  go_loopw [6] (fun t6 wr => ∃ k : Nat, k ≤ l + 12 ∧ t6 = .int .i64 (k : Int) ∧ Hid (Below w.heap.size w wr)) (fun t6 _ => l + 12 - (intOf t6).toNat)
  case atStart => exact ⟨0, by omega, rfl, Lib.hid (Below.refl _ _)⟩
  case round =>
    obtain ⟨k, hk, rfl, HB⟩ := hrel
    by_cases hlt : k < l + 12
    · have hltI : (k : Int) < (l : Int) + 12 := by omega
      obtain ⟨ad', had, _, hcell⟩ := ((H1.out.below HB.out)).at_ (k := k) (by rw [List.length_append, marks_length, ← E1.out]; exact hlt)
      injection had with had
      subst had
      by_cases hkl : k < l
      · obtain ⟨ad2, rfl, _, hcell2⟩ := ((H2.out.below HB.out)).at_ (k := k) (by rw [← E1.out]; exact hkl)
        rw [lent_getD_lo (by rw [← E1.out]; exact hkl)] at hcell
        obtain ⟨x, hx⟩ : ∃ x, xs.getD k 0 = x := ⟨_, rfl⟩
        rw [hx] at hcell hcell2
        have hI : (k : Int) < (l : Int) := by omega
        have hg : decide (l ≤ k) = false := decide_eq_false (by omega)
        have hg2 : decide (k < l) = true := decide_eq_true hkl
        clear hx hlt hkl
        go_upto_region 7 with (fail)
        go_quiet (fail)
        go_wp2_with fail
        exact ⟨⟨k + 1, by omega, by go_num, Lib.hid (below_drewN HB.out _)⟩, by simp [intOf]; omega⟩
      · obtain ⟨j, rfl⟩ : ∃ j, k = l + j := ⟨k - l, by omega⟩
        rw [lent_getD_hi (j := j) (by rw [E1.out]) (by omega)] at hcell
        have hg : decide (l ≤ l + j) = true := decide_eq_true (by omega)
        have hg2 : decide (l + j < l) = false := decide_eq_false (by omega)
        have hj : j < 12 := by omega
        have e1 : 1000003 * (((1 : Nat) : Int) + 7) + (j : Int) = (markN j : Int) := by unfold markN; omega
        have hmk := fun W => kit_mark 1 j W (by omega) (by omega)
        rw [e1] at hmk
        have HMK := Lib.hid hmk
        have HM := Lib.hid (lt_W64 (markN_lt (i := j) (by omega)))
        obtain ⟨m, hm⟩ : ∃ m, markN j = m := ⟨_, rfl⟩
        rw [hm] at hcell HMK HM
        have mI := HM.out
        obtain ⟨hw1, hw2⟩ := wraps_sub (l := l) (j := j) (by omega)
        have hjI : (j : Int) < 12 := by omega
        have hNI : ¬ (l : Int) + (j : Int) < (l : Int) := by omega
        have hPI : (l : Int) ≤ (l : Int) + (j : Int) := by omega
        clear hm e1 hmk hlt hkl hj
        go_upto_region 7 with (fail)
        go_quiet ((go_at_call 87; exact quiet_left (HMK.out _)))
        clear hw1 hw2
        go_wp2_with fail
        exact ⟨⟨l + j + 1, by omega, by go_num, Lib.hid (below_drewN HB.out _)⟩, by simp [intOf]; omega⟩
    · obtain rfl : k = l + 12 := by omega
      have hnI : ¬ ((l : Int) + 12 < (l : Int) + 12) := by omega
      clear hlt hk
      go_wp2_with fail
      go_ret
      exact ⟨rfl, HB.out⟩
/-- A record whose limbs are lent. -/
def LentV (w : World) (v : Value) (x : Raw) : Prop := ∃ A l c, v = .agg #[.bool x.1, .slice A l c] ∧ l = x.2.length ∧ l + 12 ≤ c ∧ Lim w w.heap.size A (x.2 ++ marks 12)
theorem LentV.stay {w w' : World} {v : Value} {x : Raw} (h : LentV w v x) (hb : Below w.heap.size w w') : LentV w' v x := by
  obtain ⟨A, l, c, rfl, hl, hc, hlim⟩ := h
  exact ⟨A, l, c, rfl, hl, hc, hlim.stay hb⟩
theorem LentV.put {w w' : World} {g : Nat} {v : Value} {x : Raw} (h : LentV w v x) (p : Put g w w') : LentV w' v x := by
  obtain ⟨A, l, c, rfl, hl, hc, hlim⟩ := h
  exact ⟨A, l, c, rfl, hl, hc, hlim.put p⟩
theorem LentV.raw {w : World} {v : Value} {x : Raw} (h : LentV w v x) : RawV w v x := by
  obtain ⟨A, l, c, rfl, hl, hc, hlim⟩ := h
  refine ⟨A, l, c, rfl, hl, by omega, ?_⟩
  have := hlim.take x.2.length
  rwa [List.take_left] at this
theorem LentV.open {w : World} {v : Value} {x : Raw} (h : LentV w v x) : ∃ b A l c, v = .agg #[.bool b, .slice A l c] ∧ Hid (LentV w (.agg #[.bool b, .slice A l c]) x) := by
  obtain ⟨A, l, c, rfl, hl, hc, hlim⟩ := h
  exact ⟨x.1, A, l, c, rfl, Lib.hid ⟨A, l, c, rfl, hl, hc, hlim⟩⟩
theorem LentV.parts {w : World} {b : Bool} {A : Option Addr} {l c : Nat} {x : Raw} (h : LentV w (.agg #[.bool b, .slice A l c]) x) : b = x.1 ∧ l = x.2.length ∧ l + 12 ≤ c ∧ Lim w w.heap.size A (x.2 ++ marks 12) := by
  obtain ⟨A', l', c', hv, hl, hc, hlim⟩ := h
  injection hv with hv
  have h0 := congrArg (fun a => a[0]?) hv
  have h1 := congrArg (fun a => a[1]?) hv
  simp at h0 h1
  obtain ⟨rfl, rfl, rfl⟩ := h1
  exact ⟨h0, hl, hc, hlim⟩
theorem Box2.write1 {w : World} {g : Nat} {b : Bool} {A : Option Addr} {l c : Nat} (h : Box2 w g (.bool b) (.slice A l c)) (y : Value) :
    ∃ W, w.setCell ⟨g, 1, none⟩ y = W ∧ Hid (Box2 W g (.bool b) y) ∧ Put g w W := by
  refine ⟨_, rfl, Lib.hid ?_, ⟨?_, fun _ _ _ hf => Fresh.set hf g 1 y⟩⟩
  · unfold Box2 at h ⊢
    simp [World.setCell, Array.getElem?_modify, h]
  · refine ⟨rfl, rfl, rfl, by simp, fun i hi hn => ?_, fun i hi _ => by subst hi; exact h.nums⟩
    rw [Below.heap_setCell _ _ _ i (by simpa using hn)]
set_option maxRecDepth 100000 in
theorem kit_lentInt (v : Value) (x : Raw) (w : World) (hv : RawV w v x) (hl : x.2.length ≤ 1099511627776) :
    Calls Tryz.prog 12 #[v] w fun e w' => ∃ u, e = .returned u ∧ LentV w' u x ∧ Below w.heap.size w w' := by
  obtain ⟨b1, A1, l1, c1, rfl, HV⟩ := hv.open
  have HL := Lib.hid hl
  have HP := Lib.hid HV.out.parts
  clear hv hl
  go_enter Tryz.func12, Tryz.ntmps12
  go_wp2_with fail
  obtain ⟨W0, g, r, hW, hg, hr, bx, br, G_g, S_W0, hb⟩ := boxH2 w (.bool b1) (.slice A1 l1 c1) (.bool false) (.slice none 0 0)
  rw [hW, hr, hg]
  replace HV := Lib.hid (HV.out.stay hb)
  have B_W0 := Lib.hid (show Since w W0 from hb)
  clear hW hg hr hb
  have a0 := bx.out.cell0
  have a1 := bx.out.cell1
  go_wp2_with fail
  refine (kit_lent A1 l1 c1 x.2 W0 HV.out.parts.2.2.2 HP.out.2.1 (by have := HP.out.2.1; have := HL.out; omega)).mono ?_
  rintro e w1 ⟨A, c, rfl, hc, hlim, hf, hb⟩
  have HN := Lib.hid (show LentV w1 (.agg #[.bool b1, .slice A l1 c]) x from ⟨A, l1, c, by rw [HP.out.1], HP.out.2.1, hc, hlim⟩)
  replace bx := Lib.hid (bx.out.stay hb)
  replace br := Lib.hid (br.out.stay hb)
  replace B_W0 := Lib.hid (B_W0.out.stay hb)
  clear hc hlim hf hb a0 a1
  have a0 := bx.out.cell0
  have a1 := bx.out.cell1
  have fr := bx.out.free
  go_upto_region 2 with (fail)
  obtain ⟨W1, hW1, bx', p⟩ := bx.out.write1 (.slice A l1 c)
  rw [hW1]
  have HGG := Lib.hid (show w.heap.size ≤ g ∧ w.heap.size ≤ r ∧ r ≠ g by have := G_g.out; omega)
  replace HN := Lib.hid (HN.out.put p)
  replace br := Lib.hid (br.out.put p HGG.out.2.2)
  replace B_W0 := Lib.hid (B_W0.out.put p HGG.out.1)
  clear hW1 p bx a0 a1 fr
  have a0 := bx'.out.cell0
  have a1 := bx'.out.cell1
  have k0 := br.out.cell0
  have k1 := br.out.cell1
  have fr := br.out.free
  go_wp2_with fail
  refine bodyPost_ret (results_cell_row rfl _ _ r 24 #[.bool b1, (.slice A l1 c)] (0, 0) _ (by rfl) br.out.store Tryz.underlying24 rfl (by kernel_rfl)) rfl ?_
  obtain ⟨W2, hW2, br', p⟩ := br.out.write (.bool b1) (.slice A l1 c)
  rw [hW2]
  exact ⟨_, rfl, HN.out.put p, B_W0.out.put p HGG.out.2.1⟩
set_option maxRecDepth 100000 in
theorem kit_keptInt (u v : Value) (x : Raw) (w : World) (hu : LentV w u x) (hv : RawV w v x) (hl : x.2.length ≤ 1099511627776) :
    Calls Tryz.prog 17 #[u, v] w fun e w' => e = .returned (.bool true) ∧ Below w.heap.size w w' := by
  obtain ⟨b1, A1, l1, c1, rfl, HU⟩ := hu.open
  obtain ⟨b2, A2, l2, c2, rfl, HV⟩ := hv.open
  have HL := Lib.hid hl
  have HP := Lib.hid HU.out.parts
  have HQ := Lib.hid HV.out.parts
  clear hu hv hl
  go_enter Tryz.func17, Tryz.ntmps17
  go_wp2_with fail
  obtain ⟨W0, g, r, hW, hg, hr, bx, br, G_g, S_W0, hb⟩ := boxH2 w (.bool b1) (.slice A1 l1 c1) (.bool b2) (.slice A2 l2 c2)
  rw [hW, hr, hg]
  replace HU := Lib.hid (HU.out.stay hb)
  replace HV := Lib.hid (HV.out.stay hb)
  have B_W0 := Lib.hid (show Since w W0 from hb)
  clear hW hg hr hb
  have a0 := bx.out.cell0
  have a1 := bx.out.cell1
  have k0 := br.out.cell0
  have k1 := br.out.cell1
  go_wp2_with fail
  refine (kit_raw _ _ x x W0 HU.out.raw HV.out HL.out).mono ?_
  rintro e w1 ⟨rfl, hb⟩
  rw [decide_eq_true rfl]
  replace HU := Lib.hid (HU.out.stay hb)
  replace HV := Lib.hid (HV.out.stay hb)
  replace bx := Lib.hid (bx.out.stay hb)
  replace br := Lib.hid (br.out.stay hb)
  replace B_W0 := Lib.hid (B_W0.out.stay hb)
  clear hb a0 a1 k0 k1
  have a0 := bx.out.cell0
  have a1 := bx.out.cell1
  have k0 := br.out.cell0
  have k1 := br.out.cell1
  go_wp2_with fail
  have C := kit_kept A1 A2 l1 c1 c2 x.2 w1 HU.out.parts.2.2.2 HV.out.parts.2.2.2 HP.out.2.1 HP.out.2.2.1 (by have := HP.out.2.1; have := HL.out; omega)
  have e12 : l2 = l1 := HQ.out.2.1.trans HP.out.2.1.symm
  rw [e12]
  refine C.mono ?_
  rintro e w2 ⟨rfl, hb⟩
  replace B_W0 := Lib.hid (B_W0.out.stay hb)
  clear hb a0 a1 k0 k1 C e12
  go_wp2_with fail
  go_ret
  exact ⟨rfl, B_W0.out⟩
end Go.Proofs.YtonbhpadoplpkaaGreat
