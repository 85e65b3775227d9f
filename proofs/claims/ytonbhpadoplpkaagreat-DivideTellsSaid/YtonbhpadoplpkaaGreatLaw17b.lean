import Derived.Test.YtonbhpadoplpkaaGreatLaw17
/- The law of layer 17: DivideTells. -/
namespace Go.Proofs.YtonbhpadoplpkaaGreat
open Go.RowKit Go.Deep
/-- What is told of two records. -/
def Case17 (x y : Raw) (E : Int) (q r p s z m : Raw) (ok : Bool) (Em : Int) : Prop :=
  (∃ X Y : Int, x = rawOf X ∧ y = rawOf Y ∧ lc X.natAbs ≤ 200 ∧ lc Y.natAbs ≤ 200 ∧ Y ≠ 0 ∧ E = 0 ∧ q = rawOf (X.fdiv Y) ∧ r = rawOf (X.fmod Y) ∧ p = rawOf (X.tdiv Y) ∧ s = rawOf (X.tmod Y) ∧ ok = decide (X.tmod Y = 0) ∧
    z = (if X.tmod Y = 0 then rawOf (X.tdiv Y) else (false, [])) ∧ m = modR X Y ∧ Em = modE Y) ∨
  (wrongE x y = E ∧ E ≠ 0 ∧ q = (false, []) ∧ r = (false, []) ∧ p = (false, []) ∧ s = (false, []) ∧ ok = false ∧ z = (false, []) ∧ m = (false, []) ∧ Em = E)
theorem case17 (x y : Raw) (sx : Small x.2) (sy : Small y.2) (lx : x.2.length ≤ 200) (ly : y.2.length ≤ 200) : ∃ E q r p s z m ok Em, Case17 x y E q r p s z m ok Em := by
  by_cases h0 : wrongE x y = 0
  · unfold wrongE at h0
    split at h0
    · rename_i hr
      rw [Bool.and_eq_true] at hr
      split at h0
      · exact absurd h0 (by decide)
      · rename_i hy
        obtain ⟨X, hX, hlX, _⟩ := right_int_of (b := x.1) sx hr.1
        obtain ⟨Y, hY, hlY, _⟩ := right_int_of (b := y.1) sy hr.2
        exact ⟨0, _, _, _, _, _, _, _, _, .inl ⟨X, Y, hX, hY, by omega, by omega, by
          rintro rfl
          have : lc (0 : Int).natAbs = 0 := by show (limbs 0).length = 0; rw [limbs_zero]; rfl
          omega, rfl, rfl, rfl, rfl, rfl, rfl, rfl, rfl, rfl⟩⟩
    · exact absurd h0 (by decide)
  · exact ⟨_, _, _, _, _, _, _, _, _, .inr ⟨rfl, h0, rfl, rfl, rfl, rfl, rfl, rfl, rfl, rfl⟩⟩
theorem len_of {z : Int} {n : Nat} (h : z.natAbs ≤ n + 1) (hn : lc n ≤ 200) : (rawOf z).2.length ≤ 1099511627776 := by
  have h1 : lc z.natAbs ≤ lc (n + 1) := lc_mono h
  have h2 := lc_add n 1
  have h3 : lc 1 ≤ 1 := one_len
  show lc z.natAbs ≤ _
  omega
section
variable {x y q r p s z m : Raw} {E Em : Int} {ok : Bool}
theorem Case17.len (h : Case17 x y E q r p s z m ok Em) : q.2.length ≤ 1099511627776 ∧ r.2.length ≤ 1099511627776 ∧ p.2.length ≤ 1099511627776 ∧ s.2.length ≤ 1099511627776 ∧ z.2.length ≤ 1099511627776 ∧ m.2.length ≤ 1099511627776 := by
  rcases h with ⟨X, Y, _, _, lX, lY, h0, _, rfl, rfl, rfl, rfl, _, rfl, rfl, _⟩ | ⟨_, _, rfl, rfl, rfl, rfl, _, rfl, rfl, _⟩
  · have ht : (X.tdiv Y).natAbs ≤ X.natAbs := by rw [Int.natAbs_tdiv]; exact Nat.div_le_self _ _
    have hm : (X.tmod Y).natAbs ≤ X.natAbs := by rw [Int.natAbs_tmod]; exact Nat.mod_le _ _
    have hf : (X.fdiv Y).natAbs ≤ X.natAbs + 1 := by
      rcases floor_case X Y h0 with ⟨_, _, h1, _⟩ | ⟨_, h1, _⟩ <;> rw [h1] <;> omega
    have hr := fmod_size X h0
    refine ⟨len_of hf lX, len_of (n := Y.natAbs) (by omega) lY, len_of (n := X.natAbs) (by omega) lX, len_of (n := X.natAbs) (by omega) lX, ?_, ?_⟩
    · split
      · exact len_of (n := X.natAbs) (by omega) lX
      · simp
    · unfold modR
      split
      · simp
      · exact len_of (n := Y.natAbs) (by omega) lY
  · simp
variable {u v : Value} {w : World}
theorem t17_Floor (h : Case17 x y E q r p s z m ok Em) (hu : RawV w u x) (hv : RawV w v y) (hl : y.2.length ≤ 1099511627776) : Calls Tryz.prog 13 #[u, v] w fun e w' => ∃ a b, e = .returned (.tuple #[a, b, .int .i64 E]) ∧ RawV w' a q ∧ RawV w' b r ∧ Below w.heap.size w w' := by
  rcases h with ⟨X, Y, rfl, rfl, lX, lY, h0, rfl, rfl, rfl, rfl, rfl, rfl, rfl, rfl, rfl⟩ | ⟨hE, h0, rfl, rfl, rfl, rfl, rfl, rfl, rfl, rfl⟩
  · refine (divide_Floor _ _ X Y _ hu.int hv.int (by omega) (by omega) h0 (.inl (by omega))).mono ?_
    rintro e w' ⟨a, b, rfl, ha, hb, -, hw⟩
    exact ⟨a, b, rfl, ha.rawV, hb.rawV, hw⟩
  · refine (divide_Floor_bad _ _ x y _ _ hu hv hE h0).mono ?_
    rintro e w' ⟨rfl, hb⟩
    first
    | exact ⟨_, _, rfl, RawV.none _, RawV.none _, hb⟩
    | exact ⟨_, rfl, RawV.none _, hb⟩
theorem t17_Trunc (h : Case17 x y E q r p s z m ok Em) (hu : RawV w u x) (hv : RawV w v y) (hl : y.2.length ≤ 1099511627776) : Calls Tryz.prog 14 #[u, v] w fun e w' => ∃ a b, e = .returned (.tuple #[a, b, .int .i64 E]) ∧ RawV w' a p ∧ RawV w' b s ∧ Below w.heap.size w w' := by
  rcases h with ⟨X, Y, rfl, rfl, lX, lY, h0, rfl, rfl, rfl, rfl, rfl, rfl, rfl, rfl, rfl⟩ | ⟨hE, h0, rfl, rfl, rfl, rfl, rfl, rfl, rfl, rfl⟩
  · refine (divide_Trunc _ _ X Y _ hu.int hv.int (by omega) (by omega) h0 (.inl (by omega))).mono ?_
    rintro e w' ⟨a, b, rfl, ha, hb, -, hw⟩
    exact ⟨a, b, rfl, ha.rawV, hb.rawV, hw⟩
  · refine (divide_Trunc_bad _ _ x y _ _ hu hv hE h0).mono ?_
    rintro e w' ⟨rfl, hb⟩
    first
    | exact ⟨_, _, rfl, RawV.none _, RawV.none _, hb⟩
    | exact ⟨_, rfl, RawV.none _, hb⟩
theorem t17_Exact (h : Case17 x y E q r p s z m ok Em) (hu : RawV w u x) (hv : RawV w v y) (hl : y.2.length ≤ 1099511627776) : Calls Tryz.prog 15 #[u, v] w fun e w' => ∃ a, e = .returned (.tuple #[a, .bool ok, .int .i64 E]) ∧ RawV w' a z ∧ Below w.heap.size w w' := by
  rcases h with ⟨X, Y, rfl, rfl, lX, lY, h0, rfl, rfl, rfl, rfl, rfl, rfl, rfl, rfl, rfl⟩ | ⟨hE, h0, rfl, rfl, rfl, rfl, rfl, rfl, rfl, rfl⟩
  · refine (divide_Exact _ _ X Y _ hu.int hv.int (by omega) (by omega) h0 (.inl (by omega))).mono ?_
    rintro e w' ⟨a, rfl, ha, hw⟩
    exact ⟨a, rfl, ha.rawV, hw⟩
  · refine (divide_Exact_bad _ _ x y _ _ hu hv hE h0).mono ?_
    rintro e w' ⟨rfl, hb⟩
    first
    | exact ⟨_, _, rfl, RawV.none _, RawV.none _, hb⟩
    | exact ⟨_, rfl, RawV.none _, hb⟩
theorem t17_Mod (h : Case17 x y E q r p s z m ok Em) (hu : RawV w u x) (hv : RawV w v y) (hl : y.2.length ≤ 1099511627776) : Calls Tryz.prog 16 #[u, v] w fun e w' => ∃ a, e = .returned (.tuple #[a, .int .i64 Em]) ∧ RawV w' a m ∧ Below w.heap.size w w' := by
  rcases h with ⟨X, Y, rfl, rfl, lX, lY, h0, rfl, rfl, rfl, rfl, rfl, rfl, rfl, rfl, rfl⟩ | ⟨hE, h0, rfl, rfl, rfl, rfl, rfl, rfl, rfl, rfl⟩
  · refine (divide_Mod _ _ X Y _ hu.int hv.int (by omega) (by omega) h0 (.inl (by omega))).mono ?_
    rintro e w' ⟨a, rfl, ha, hw⟩
    exact ⟨a, rfl, ha.rawV, hw⟩
  · refine (divide_Mod_bad _ _ x y _ _ hu hv hE h0).mono ?_
    rintro e w' ⟨rfl, hb⟩
    first
    | exact ⟨_, _, rfl, RawV.none _, RawV.none _, hb⟩
    | exact ⟨_, rfl, RawV.none _, hb⟩
theorem u17_Floor (h : Case17 x y E q r p s z m ok Em) (hu : RawV w u x) (hv : RawV w v y) (hl : y.2.length ≤ 1099511627776) : Calls Tryz.prog 18 #[u, v] w fun e w' => ∃ a b, e = .returned (.tuple #[a, b, .int .i64 E]) ∧ RawV w' a q ∧ RawV w' b r ∧ Below w.heap.size w w' := by
  rcases h with ⟨X, Y, rfl, rfl, lX, lY, h0, rfl, rfl, rfl, rfl, rfl, rfl, rfl, rfl, rfl⟩ | ⟨hE, h0, rfl, rfl, rfl, rfl, rfl, rfl, rfl, rfl⟩
  · refine (r17_Floor _ _ X Y _ hu.int hv.int (by omega) (by omega) h0).mono ?_
    rintro e w' ⟨a, b, rfl, ha, hb, hw⟩
    exact ⟨a, b, rfl, ha.raw, hb.raw, hw⟩
  · refine (r17_Floor_bad _ _ x y _ _ hu hv hE h0 hl).mono ?_
    rintro e w' ⟨rfl, hb⟩
    first
    | exact ⟨_, _, rfl, RawV.none _, RawV.none _, hb⟩
    | exact ⟨_, rfl, RawV.none _, hb⟩
theorem u17_Trunc (h : Case17 x y E q r p s z m ok Em) (hu : RawV w u x) (hv : RawV w v y) (hl : y.2.length ≤ 1099511627776) : Calls Tryz.prog 19 #[u, v] w fun e w' => ∃ a b, e = .returned (.tuple #[a, b, .int .i64 E]) ∧ RawV w' a p ∧ RawV w' b s ∧ Below w.heap.size w w' := by
  rcases h with ⟨X, Y, rfl, rfl, lX, lY, h0, rfl, rfl, rfl, rfl, rfl, rfl, rfl, rfl, rfl⟩ | ⟨hE, h0, rfl, rfl, rfl, rfl, rfl, rfl, rfl, rfl⟩
  · refine (r17_Trunc _ _ X Y _ hu.int hv.int (by omega) (by omega) h0).mono ?_
    rintro e w' ⟨a, b, rfl, ha, hb, hw⟩
    exact ⟨a, b, rfl, ha.raw, hb.raw, hw⟩
  · refine (r17_Trunc_bad _ _ x y _ _ hu hv hE h0 hl).mono ?_
    rintro e w' ⟨rfl, hb⟩
    first
    | exact ⟨_, _, rfl, RawV.none _, RawV.none _, hb⟩
    | exact ⟨_, rfl, RawV.none _, hb⟩
theorem u17_Exact (h : Case17 x y E q r p s z m ok Em) (hu : RawV w u x) (hv : RawV w v y) (hl : y.2.length ≤ 1099511627776) : Calls Tryz.prog 20 #[u, v] w fun e w' => ∃ a, e = .returned (.tuple #[a, .bool ok, .int .i64 E]) ∧ RawV w' a z ∧ Below w.heap.size w w' := by
  rcases h with ⟨X, Y, rfl, rfl, lX, lY, h0, rfl, rfl, rfl, rfl, rfl, rfl, rfl, rfl, rfl⟩ | ⟨hE, h0, rfl, rfl, rfl, rfl, rfl, rfl, rfl, rfl⟩
  · refine (r17_Exact _ _ X Y _ hu.int hv.int (by omega) (by omega) h0).mono ?_
    rintro e w' ⟨a, rfl, ha, hw⟩
    exact ⟨a, rfl, ha, hw⟩
  · refine (r17_Exact_bad _ _ x y _ _ hu hv hE h0 hl).mono ?_
    rintro e w' ⟨rfl, hb⟩
    first
    | exact ⟨_, _, rfl, RawV.none _, RawV.none _, hb⟩
    | exact ⟨_, rfl, RawV.none _, hb⟩
theorem u17_Mod (h : Case17 x y E q r p s z m ok Em) (hu : RawV w u x) (hv : RawV w v y) (hl : y.2.length ≤ 1099511627776) : Calls Tryz.prog 21 #[u, v] w fun e w' => ∃ a, e = .returned (.tuple #[a, .int .i64 Em]) ∧ RawV w' a m ∧ Below w.heap.size w w' := by
  rcases h with ⟨X, Y, rfl, rfl, lX, lY, h0, rfl, rfl, rfl, rfl, rfl, rfl, rfl, rfl, rfl⟩ | ⟨hE, h0, rfl, rfl, rfl, rfl, rfl, rfl, rfl, rfl⟩
  · refine (r17_Mod _ _ X Y _ hu.int hv.int (by omega) (by omega) h0).mono ?_
    rintro e w' ⟨a, rfl, ha, hw⟩
    exact ⟨a, rfl, ha, hw⟩
  · refine (r17_Mod_bad _ _ x y _ _ hu hv hE h0 hl).mono ?_
    rintro e w' ⟨rfl, hb⟩
    first
    | exact ⟨_, _, rfl, RawV.none _, RawV.none _, hb⟩
    | exact ⟨_, rfl, RawV.none _, hb⟩
end
/-- A new variable's box. -/
def BoxP (w : World) (base : Nat) (v : Value) : Prop := ∃ g, v = .pointer (some ⟨g, 0, none⟩) ∧ base ≤ g ∧ Box2 w g (.bool false) (.slice none 0 0)
theorem BoxP.stay {w w' : World} {base : Nat} {v : Value} (h : BoxP w base v) (hb : Below w.heap.size w w') : BoxP w' base v := by
  obtain ⟨g, h1, h0, h2⟩ := h
  exact ⟨g, h1, h0, h2.stay hb⟩
/-- The state of 'x, y := LentInt(a), LentInt(b)'. -/
def Lent2J (w0 : World) (ga gb : Nat) (r1 r2 : Value × Value) (x y : Raw) (s1 s2 s3 s4 s5 s6 i1 i2 i3 i4 i5 i6 : Nat) (a0 : Act) (L : Nat → Bool) (a : Act) (w : World) : Prop :=
  ∃ v1 v2 v3 v4 v5 v6 : Value, a = (((((a0.put (some s1) v1).put (some s2) v2).put (some s3) v3).put (some s4) v4).put (some s5) v5).put (some s6) v6 ∧
    Box2 w ga r1.1 r1.2 ∧ Box2 w gb r2.1 r2.2 ∧ RawV w (.agg #[r1.1, r1.2]) x ∧ RawV w (.agg #[r2.1, r2.2]) y ∧ Since w0 w ∧
    (L i1 = true → v1 = .agg #[r1.1, r1.2]) ∧ (L i2 = true → LentV w v2 x) ∧ (L i3 = true → v3 = .agg #[r2.1, r2.2]) ∧ (L i4 = true → LentV w v4 y) ∧ (L i5 = true → BoxP w (gb + 1) v5) ∧ (L i6 = true → BoxP w (gb + 1) v6) ∧ (L i5 = true → L i6 = true → v5 ≠ v6)
set_option maxHeartbeats 2000000 in
set_option maxRecDepth 100000 in
theorem law17_tells (u v : Value) (x y : Raw) (w : World) (hu : RawV w u x) (hv : RawV w v y) :
    Calls Tryz.prog 3 #[u, v] w fun e w' => e = .returned (.bool true) ∧ Below w.heap.size w w' := by
  obtain ⟨b1, A1, l1, c1, rfl, HU⟩ := hu.open
  obtain ⟨b2, A2, l2, c2, rfl, HV⟩ := hv.open
  clear hu hv
  go_enter Tryz.func3, Tryz.ntmps3
  go_wp2_with fail
  obtain ⟨W0, g, h, hW, hg, hr, bx, by_, G_g, S_W0, hb⟩ := boxH2 w (.bool b1) (.slice A1 l1 c1) (.bool b2) (.slice A2 l2 c2)
  rw [hW, hr, hg]
  replace HU := Lib.hid (HU.out.stay hb)
  replace HV := Lib.hid (HV.out.stay hb)
  have B_W0 := Lib.hid (show Since w W0 from hb)
  clear hW hg hr hb
  refine (law17_awake W0).mono ?_
  rintro e w1 ⟨rfl, hb⟩
  replace HU := Lib.hid (HU.out.stay hb)
  replace HV := Lib.hid (HV.out.stay hb)
  replace bx := Lib.hid (bx.out.stay hb)
  replace by_ := Lib.hid (by_.out.stay hb)
  replace B_W0 := Lib.hid (B_W0.out.stay hb)
  clear hb
  have a0 := bx.out.cell0
  have a1 := bx.out.cell1
  have k0 := by_.out.cell0
  have k1 := by_.out.cell1
  go_wp2_with fail
  refine (law17_long _ _ x y w1 HU.out HV.out).mono ?_
  rintro e w2 ⟨rfl, hb⟩
  replace HU := Lib.hid (HU.out.stay hb)
  replace HV := Lib.hid (HV.out.stay hb)
  replace bx := Lib.hid (bx.out.stay hb)
  replace by_ := Lib.hid (by_.out.stay hb)
  replace B_W0 := Lib.hid (B_W0.out.stay hb)
  clear hb a0 a1 k0 k1
  by_cases hlong : (decide (200 < x.2.length) || decide (200 < y.2.length)) = true
  · rw [hlong]
    clear hlong
    go_wp2_with fail
    go_ret
    exact ⟨rfl, B_W0.out⟩
  · rw [Bool.not_eq_true] at hlong
    rw [hlong]
    have HS := Lib.hid (show x.2.length ≤ 200 ∧ y.2.length ≤ 200 by
      rw [Bool.or_eq_false_iff] at hlong
      have h1 := of_decide_eq_false hlong.1
      have h2 := of_decide_eq_false hlong.2
      omega)
    obtain ⟨E, q, r, p, s, z, m, ok, Em, hC⟩ := case17 x y (HU.out.parts.2.2.2).small (HV.out.parts.2.2.2).small HS.out.1 HS.out.2
    have HC := Lib.hid hC
    clear hlong hC
    have HLX := Lib.hid (show x.2.length ≤ 1099511627776 by have := HS.out.1; omega)
    have HLY := Lib.hid (show y.2.length ≤ 1099511627776 by have := HS.out.2; omega)
    go_upto_region 5 with (fail)
    refine wp_region_inv (Lent2J w g h (.bool b1, .slice A1 l1 c1) (.bool b2, .slice A2 l2 c2) x y 35 36 37 38 5 6 0 1 2 3 4 5) 6 [_, _] (by kernel_rfl) (by kernel_rfl) rfl ?_ ?_ ?_
    · exact ⟨undef, undef, undef, undef, undef, undef, (by simp only [Act.put, List.setIfInBounds_toArray, List.set_cons_succ, List.set_cons_zero]), bx.out.stay (below_drewN (Below.refl _ _) 1), by_.out.stay (below_drewN (Below.refl _ _) 1), HU.out.stay (below_drewN (Below.refl _ _) 1), HV.out.stay (below_drewN (Below.refl _ _) 1), B_W0.out.stay (below_drewN (Below.refl _ _) 1),
        (fun e => by cases e), (fun e => by cases e), (fun e => by cases e), (fun e => by cases e), (fun e => by cases e), (fun e => by cases e), (fun e => by cases e)⟩
    · intro i o L a1 W hi ho hL hd hJ K hK
      obtain ⟨v1, v2, v3, v4, v5, v6, rfl, j1, j2, j3, j4, j5, k1, k2, k3, k4, k5, k6, k7⟩ := hJ
      obtain rfl | rfl | rfl | rfl | rfl | rfl : i = 0 ∨ i = 1 ∨ i = 2 ∨ i = 3 ∨ i = 4 ∨ i = 5 := by omega
      all_goals obtain rfl := Option.some.inj ho
      all_goals refine ⟨rfl, ?_⟩
      all_goals simp only [Act.put, List.setIfInBounds_toArray, List.set_cons_succ, List.set_cons_zero]
      · have c0 := j1.cell0
        have c1' := j1.cell1
        go_big_op
        exact hK _ _ ⟨_, v2, v3, v4, v5, v6, (by simp only [Act.put, List.setIfInBounds_toArray, List.set_cons_succ, List.set_cons_zero]), j1, j2, j3, j4, j5, fun _ => rfl, fun e => k2 (by simpa [upd] using e), fun e => k3 (by simpa [upd] using e), fun e => k4 (by simpa [upd] using e), fun e => k5 (by simpa [upd] using e), fun e => k6 (by simpa [upd] using e), fun e e' => k7 (by simpa [upd] using e) (by simpa [upd] using e')⟩
      · obtain rfl := k1 (hd 0 (by kernel_rfl))
        have HK := Lib.hid (And.intro k2 (And.intro k3 (And.intro k4 (And.intro k5 (And.intro k6 k7)))))
        clear k1 k2 k3 k4 k5 k6 k7 hd
        go_big_op
        refine (kit_lentInt _ x W j3 HLX.out).mono ?_
        rintro e W' ⟨u1, rfl, hl, hb⟩
        obtain ⟨k2, k3, k4, k5, k6, k7⟩ := HK.out
        exact hK _ _ ⟨_, u1, v3, v4, v5, v6, (by simp only [Act.put, List.setIfInBounds_toArray, List.set_cons_succ, List.set_cons_zero]), j1.stay hb, j2.stay hb, j3.stay hb, j4.stay hb, j5.stay hb, fun _ => rfl, fun _ => hl, fun e => k3 (by simpa [upd] using e), fun e => (k4 (by simpa [upd] using e)).stay hb, fun e => (k5 (by simpa [upd] using e)).stay hb, fun e => (k6 (by simpa [upd] using e)).stay hb, fun e e' => k7 (by simpa [upd] using e) (by simpa [upd] using e')⟩
      · have c0 := j2.cell0
        have c1' := j2.cell1
        go_big_op
        exact hK _ _ ⟨v1, v2, _, v4, v5, v6, (by simp only [Act.put, List.setIfInBounds_toArray, List.set_cons_succ, List.set_cons_zero]), j1, j2, j3, j4, j5, fun e => k1 (by simpa [upd] using e), fun e => k2 (by simpa [upd] using e), fun _ => rfl, fun e => k4 (by simpa [upd] using e), fun e => k5 (by simpa [upd] using e), fun e => k6 (by simpa [upd] using e), fun e e' => k7 (by simpa [upd] using e) (by simpa [upd] using e')⟩
      · obtain rfl := k3 (hd 2 (by kernel_rfl))
        have HK := Lib.hid (And.intro k1 (And.intro k2 (And.intro k4 (And.intro k5 (And.intro k6 k7)))))
        clear k1 k2 k3 k4 k5 k6 k7 hd
        go_big_op
        refine (kit_lentInt _ y W j4 HLY.out).mono ?_
        rintro e W' ⟨u1, rfl, hl, hb⟩
        obtain ⟨k1, k2, k4, k5, k6, k7⟩ := HK.out
        exact hK _ _ ⟨v1, v2, _, u1, v5, v6, (by simp only [Act.put, List.setIfInBounds_toArray, List.set_cons_succ, List.set_cons_zero]), j1.stay hb, j2.stay hb, j3.stay hb, j4.stay hb, j5.stay hb, fun e => k1 (by simpa [upd] using e), fun e => (k2 (by simpa [upd] using e)).stay hb, fun _ => rfl, fun _ => hl, fun e => (k5 (by simpa [upd] using e)).stay hb, fun e => (k6 (by simpa [upd] using e)).stay hb, fun e e' => k7 (by simpa [upd] using e) (by simpa [upd] using e')⟩
      · go_big_op
        have hb : Below W.heap.size W (W.alloc (.cells #[.bool false, .slice none 0 0] 24)) := (Below.refl _ _).alloc (Nat.le_refl _) _
        exact hK _ _ ⟨v1, v2, v3, v4, _, v6, (by simp only [Act.put, List.setIfInBounds_toArray, List.set_cons_succ, List.set_cons_zero]), j1.stay hb, j2.stay hb, j3.stay hb, j4.stay hb, j5.stay hb, fun e => k1 (by simpa [upd] using e), fun e => (k2 (by simpa [upd] using e)).stay hb, fun e => k3 (by simpa [upd] using e), fun e => (k4 (by simpa [upd] using e)).stay hb, fun _ => ⟨_, rfl, j2.lt, heap_alloc_new W _⟩, fun e => (k6 (by simpa [upd] using e)).stay hb, fun _ e' h => by
          obtain ⟨g6, h6, -, b6⟩ := k6 (by simpa [upd] using e')
          rw [h6] at h
          injection h with h
          injection h with h
          injection h with h
          exact absurd b6.lt (by omega)⟩
      · go_big_op
        have hb : Below W.heap.size W (W.alloc (.cells #[.bool false, .slice none 0 0] 24)) := (Below.refl _ _).alloc (Nat.le_refl _) _
        exact hK _ _ ⟨v1, v2, v3, v4, v5, _, (by simp only [Act.put, List.setIfInBounds_toArray, List.set_cons_succ, List.set_cons_zero]), j1.stay hb, j2.stay hb, j3.stay hb, j4.stay hb, j5.stay hb, fun e => k1 (by simpa [upd] using e), fun e => (k2 (by simpa [upd] using e)).stay hb, fun e => k3 (by simpa [upd] using e), fun e => (k4 (by simpa [upd] using e)).stay hb, fun e => (k5 (by simpa [upd] using e)).stay hb, fun _ => ⟨_, rfl, j2.lt, heap_alloc_new W _⟩, fun e' _ h => by
          obtain ⟨g6, h6, -, b6⟩ := k5 (by simpa [upd] using e')
          rw [h6] at h
          injection h with h
          injection h with h
          injection h with h
          exact absurd b6.lt (by omega)⟩
    · intro L a1 W hall hJ
      obtain ⟨v1, v2, v3, v4, v5, v6, rfl, j1, j2, j3, j4, j5, k1, k2, k3, k4, k5, k6, k7⟩ := hJ
      obtain ⟨g5, rfl, h5, b5⟩ := k5 (hall 4 (by omega))
      obtain ⟨g6, rfl, h6, b6⟩ := k6 (hall 5 (by omega))
      have hne : g6 ≠ g5 := fun e => k7 (hall 4 (by omega)) (hall 5 (by omega)) (by rw [e])
      obtain ⟨bl, Al, ll, cl, rfl, HLA⟩ := (k2 (hall 1 (by omega))).open
      obtain ⟨bn, An, ln, cn, rfl, HLB⟩ := (k4 (hall 3 (by omega))).open
      simp only [Act.put, List.setIfInBounds_toArray, List.set_cons_succ, List.set_cons_zero]
      have HG := Lib.hid (show w.heap.size = g ∧ g + 1 = h ∧ h + 1 ≤ g5 ∧ h + 1 ≤ g6 ∧ g6 ≠ g5 from ⟨G_g.out.1, G_g.out.2, h5, h6, hne⟩)
      have c0 := b5.cell0
      have c1' := b5.cell1
      have f0 := b5.free
      have d0 := b6.cell0
      have d1 := b6.cell1
      have g0 := b6.free
      have HJ := Lib.hid (And.intro j1 (And.intro j2 (And.intro j3 (And.intro j4 (And.intro j5 (And.intro b5 b6))))))
      have hne' : ¬ g5 = g6 := fun e => hne e.symm
      clear k1 k2 k3 k4 k5 k6 k7 j1 j2 j3 j4 j5 b5 b6 h5 h6 hall HU HV bx by_ B_W0
      go_upto_region 6 with (fail)
      obtain ⟨j1, j2, j3, j4, j5, b5, b6⟩ := HJ.out
      obtain ⟨Wa, hWa, ba, pa⟩ := b5.write (.bool bl) (.slice Al ll cl)
      obtain ⟨Wb, hWb, bb, pb⟩ := (b6.put pa hne).write (.bool bn) (.slice An ln cn)
      rw [hWa, hWb]
      have bx := Lib.hid ((j1.put pa (by have := HG.out; omega)).put pb (by have := HG.out; omega))
      have by_ := Lib.hid ((j2.put pa (by have := HG.out; omega)).put pb (by have := HG.out; omega))
      replace ba := Lib.hid (ba.out.put pb (fun e => hne e.symm))
      have HU := Lib.hid ((j3.put pa).put pb)
      have HV := Lib.hid ((j4.put pa).put pb)
      have B := Lib.hid ((j5.put pa (by have := HG.out; omega)).put pb (by have := HG.out; omega))
      replace HLA := Lib.hid ((HLA.out.put pa).put pb)
      replace HLB := Lib.hid ((HLB.out.put pa).put pb)
      clear c0 c1' f0 d0 d1 g0 HJ j1 j2 j3 j4 j5 b5 b6 hWa hWb pa pb hne hne'
      have a0 := ba.out.cell0
      have a1 := ba.out.cell1
      have k0 := bb.out.cell0
      have k1 := bb.out.cell1
      go_wp2_with fail
      refine (t17_Floor HC.out HLA.out.raw HLB.out.raw HLY.out).mono ?_
      rintro e w1 ⟨a1, b1, rfl, ha, hc, hb⟩
      obtain ⟨ba1, Aa1, la1, ca1, rfl, HA1⟩ := ha.open
      obtain ⟨bb1, Ab1, lb1, cb1, rfl, HB1⟩ := hc.open
      replace HU := Lib.hid (HU.out.stay hb)
      replace HV := Lib.hid (HV.out.stay hb)
      replace HLA := Lib.hid (HLA.out.stay hb)
      replace HLB := Lib.hid (HLB.out.stay hb)
      replace bx := Lib.hid (bx.out.stay hb)
      replace by_ := Lib.hid (by_.out.stay hb)
      replace ba := Lib.hid (ba.out.stay hb)
      replace bb := Lib.hid (bb.out.stay hb)
      replace B := Lib.hid (B.out.stay hb)
      clear ha hc hb a0 a1 k0 k1
      go_upto_region 7 with (fail)
      obtain ⟨W1, ga1, gb1, hW, hg, hr, xa1, xb1, G_ga1, S_W1, hb⟩ := boxH2 w1 (.bool ba1) (.slice Aa1 la1 ca1) (.bool bb1) (.slice Ab1 lb1 cb1)
      rw [hW, hr, hg]
      replace HU := Lib.hid (HU.out.stay hb)
      replace HV := Lib.hid (HV.out.stay hb)
      replace HLA := Lib.hid (HLA.out.stay hb)
      replace HLB := Lib.hid (HLB.out.stay hb)
      replace bx := Lib.hid (bx.out.stay hb)
      replace by_ := Lib.hid (by_.out.stay hb)
      replace ba := Lib.hid (ba.out.stay hb)
      replace bb := Lib.hid (bb.out.stay hb)
      replace B := Lib.hid (B.out.stay hb)
      replace HA1 := Lib.hid (HA1.out.stay hb)
      replace HB1 := Lib.hid (HB1.out.stay hb)
      have B_W1 := Lib.hid (show Since w1 W1 from hb)
      clear hW hg hr hb
      clear G_ga1 S_W1 B_W1
      have a0 := ba.out.cell0
      have a1 := ba.out.cell1
      have k0 := bb.out.cell0
      have k1 := bb.out.cell1
      go_wp2_with fail
      refine (t17_Trunc HC.out HLA.out.raw HLB.out.raw HLY.out).mono ?_
      rintro e w2 ⟨a2, b2, rfl, ha, hc, hb⟩
      obtain ⟨ba2, Aa2, la2, ca2, rfl, HA2⟩ := ha.open
      obtain ⟨bb2, Ab2, lb2, cb2, rfl, HB2⟩ := hc.open
      replace HU := Lib.hid (HU.out.stay hb)
      replace HV := Lib.hid (HV.out.stay hb)
      replace HLA := Lib.hid (HLA.out.stay hb)
      replace HLB := Lib.hid (HLB.out.stay hb)
      replace bx := Lib.hid (bx.out.stay hb)
      replace by_ := Lib.hid (by_.out.stay hb)
      replace ba := Lib.hid (ba.out.stay hb)
      replace bb := Lib.hid (bb.out.stay hb)
      replace B := Lib.hid (B.out.stay hb)
      replace HA1 := Lib.hid (HA1.out.stay hb)
      replace HB1 := Lib.hid (HB1.out.stay hb)
      replace xa1 := Lib.hid (xa1.out.stay hb)
      replace xb1 := Lib.hid (xb1.out.stay hb)
      clear ha hc hb a0 a1 k0 k1
      go_upto_region 8 with (fail)
      obtain ⟨W2, ga2, gb2, hW, hg, hr, xa2, xb2, G_ga2, S_W2, hb⟩ := boxH2 w2 (.bool ba2) (.slice Aa2 la2 ca2) (.bool bb2) (.slice Ab2 lb2 cb2)
      rw [hW, hr, hg]
      replace HU := Lib.hid (HU.out.stay hb)
      replace HV := Lib.hid (HV.out.stay hb)
      replace HLA := Lib.hid (HLA.out.stay hb)
      replace HLB := Lib.hid (HLB.out.stay hb)
      replace bx := Lib.hid (bx.out.stay hb)
      replace by_ := Lib.hid (by_.out.stay hb)
      replace ba := Lib.hid (ba.out.stay hb)
      replace bb := Lib.hid (bb.out.stay hb)
      replace B := Lib.hid (B.out.stay hb)
      replace HA1 := Lib.hid (HA1.out.stay hb)
      replace HB1 := Lib.hid (HB1.out.stay hb)
      replace xa1 := Lib.hid (xa1.out.stay hb)
      replace xb1 := Lib.hid (xb1.out.stay hb)
      replace HA2 := Lib.hid (HA2.out.stay hb)
      replace HB2 := Lib.hid (HB2.out.stay hb)
      have B_W2 := Lib.hid (show Since w2 W2 from hb)
      clear hW hg hr hb
      clear G_ga2 S_W2 B_W2
      have a0 := ba.out.cell0
      have a1 := ba.out.cell1
      have k0 := bb.out.cell0
      have k1 := bb.out.cell1
      go_wp2_with fail
      refine (t17_Exact HC.out HLA.out.raw HLB.out.raw HLY.out).mono ?_
      rintro e w3 ⟨a3, rfl, ha, hb⟩
      obtain ⟨ba3, Aa3, la3, ca3, rfl, HA3⟩ := ha.open
      replace HU := Lib.hid (HU.out.stay hb)
      replace HV := Lib.hid (HV.out.stay hb)
      replace HLA := Lib.hid (HLA.out.stay hb)
      replace HLB := Lib.hid (HLB.out.stay hb)
      replace bx := Lib.hid (bx.out.stay hb)
      replace by_ := Lib.hid (by_.out.stay hb)
      replace ba := Lib.hid (ba.out.stay hb)
      replace bb := Lib.hid (bb.out.stay hb)
      replace B := Lib.hid (B.out.stay hb)
      replace HA1 := Lib.hid (HA1.out.stay hb)
      replace HB1 := Lib.hid (HB1.out.stay hb)
      replace xa1 := Lib.hid (xa1.out.stay hb)
      replace xb1 := Lib.hid (xb1.out.stay hb)
      replace HA2 := Lib.hid (HA2.out.stay hb)
      replace HB2 := Lib.hid (HB2.out.stay hb)
      replace xa2 := Lib.hid (xa2.out.stay hb)
      replace xb2 := Lib.hid (xb2.out.stay hb)
      clear ha hb a0 a1 k0 k1
      go_upto_region 9 with (fail)
      obtain ⟨W3, ga3, hW, hg, xa3, G_ga3, S_W3, hb⟩ := boxH w3 (.bool ba3) (.slice Aa3 la3 ca3)
      rw [hW, hg]
      replace HU := Lib.hid (HU.out.stay hb)
      replace HV := Lib.hid (HV.out.stay hb)
      replace HLA := Lib.hid (HLA.out.stay hb)
      replace HLB := Lib.hid (HLB.out.stay hb)
      replace bx := Lib.hid (bx.out.stay hb)
      replace by_ := Lib.hid (by_.out.stay hb)
      replace ba := Lib.hid (ba.out.stay hb)
      replace bb := Lib.hid (bb.out.stay hb)
      replace B := Lib.hid (B.out.stay hb)
      replace HA1 := Lib.hid (HA1.out.stay hb)
      replace HB1 := Lib.hid (HB1.out.stay hb)
      replace xa1 := Lib.hid (xa1.out.stay hb)
      replace xb1 := Lib.hid (xb1.out.stay hb)
      replace HA2 := Lib.hid (HA2.out.stay hb)
      replace HB2 := Lib.hid (HB2.out.stay hb)
      replace xa2 := Lib.hid (xa2.out.stay hb)
      replace xb2 := Lib.hid (xb2.out.stay hb)
      replace HA3 := Lib.hid (HA3.out.stay hb)
      have B_W3 := Lib.hid (show Since w3 W3 from hb)
      clear hW hg hb
      clear G_ga3 S_W3 B_W3
      have a0 := ba.out.cell0
      have a1 := ba.out.cell1
      have k0 := bb.out.cell0
      have k1 := bb.out.cell1
      go_wp2_with fail
      refine (t17_Mod HC.out HLA.out.raw HLB.out.raw HLY.out).mono ?_
      rintro e w4 ⟨a4, rfl, ha, hb⟩
      obtain ⟨ba4, Aa4, la4, ca4, rfl, HA4⟩ := ha.open
      replace HU := Lib.hid (HU.out.stay hb)
      replace HV := Lib.hid (HV.out.stay hb)
      replace HLA := Lib.hid (HLA.out.stay hb)
      replace HLB := Lib.hid (HLB.out.stay hb)
      replace bx := Lib.hid (bx.out.stay hb)
      replace by_ := Lib.hid (by_.out.stay hb)
      replace ba := Lib.hid (ba.out.stay hb)
      replace bb := Lib.hid (bb.out.stay hb)
      replace B := Lib.hid (B.out.stay hb)
      replace HA1 := Lib.hid (HA1.out.stay hb)
      replace HB1 := Lib.hid (HB1.out.stay hb)
      replace xa1 := Lib.hid (xa1.out.stay hb)
      replace xb1 := Lib.hid (xb1.out.stay hb)
      replace HA2 := Lib.hid (HA2.out.stay hb)
      replace HB2 := Lib.hid (HB2.out.stay hb)
      replace xa2 := Lib.hid (xa2.out.stay hb)
      replace xb2 := Lib.hid (xb2.out.stay hb)
      replace HA3 := Lib.hid (HA3.out.stay hb)
      replace xa3 := Lib.hid (xa3.out.stay hb)
      clear ha hb a0 a1 k0 k1
      go_upto_region 10 with (fail)
      obtain ⟨W4, ga4, hW, hg, xa4, G_ga4, S_W4, hb⟩ := boxH w4 (.bool ba4) (.slice Aa4 la4 ca4)
      rw [hW, hg]
      replace HU := Lib.hid (HU.out.stay hb)
      replace HV := Lib.hid (HV.out.stay hb)
      replace HLA := Lib.hid (HLA.out.stay hb)
      replace HLB := Lib.hid (HLB.out.stay hb)
      replace bx := Lib.hid (bx.out.stay hb)
      replace by_ := Lib.hid (by_.out.stay hb)
      replace ba := Lib.hid (ba.out.stay hb)
      replace bb := Lib.hid (bb.out.stay hb)
      replace B := Lib.hid (B.out.stay hb)
      replace HA1 := Lib.hid (HA1.out.stay hb)
      replace HB1 := Lib.hid (HB1.out.stay hb)
      replace xa1 := Lib.hid (xa1.out.stay hb)
      replace xb1 := Lib.hid (xb1.out.stay hb)
      replace HA2 := Lib.hid (HA2.out.stay hb)
      replace HB2 := Lib.hid (HB2.out.stay hb)
      replace xa2 := Lib.hid (xa2.out.stay hb)
      replace xb2 := Lib.hid (xb2.out.stay hb)
      replace HA3 := Lib.hid (HA3.out.stay hb)
      replace xa3 := Lib.hid (xa3.out.stay hb)
      replace HA4 := Lib.hid (HA4.out.stay hb)
      have B_W4 := Lib.hid (show Since w4 W4 from hb)
      clear hW hg hb
      clear G_ga4 S_W4 B_W4
      have a0 := ba.out.cell0
      have a1 := ba.out.cell1
      have k0 := bx.out.cell0
      have k1 := bx.out.cell1
      go_wp2_with fail
      refine (kit_keptInt _ _ x _ HLA.out HU.out HLX.out).mono ?_
      rintro e w10 ⟨rfl, hb⟩
      replace HU := Lib.hid (HU.out.stay hb)
      replace HV := Lib.hid (HV.out.stay hb)
      replace HLA := Lib.hid (HLA.out.stay hb)
      replace HLB := Lib.hid (HLB.out.stay hb)
      replace bx := Lib.hid (bx.out.stay hb)
      replace by_ := Lib.hid (by_.out.stay hb)
      replace ba := Lib.hid (ba.out.stay hb)
      replace bb := Lib.hid (bb.out.stay hb)
      replace B := Lib.hid (B.out.stay hb)
      replace HA1 := Lib.hid (HA1.out.stay hb)
      replace HB1 := Lib.hid (HB1.out.stay hb)
      replace xa1 := Lib.hid (xa1.out.stay hb)
      replace xb1 := Lib.hid (xb1.out.stay hb)
      replace HA2 := Lib.hid (HA2.out.stay hb)
      replace HB2 := Lib.hid (HB2.out.stay hb)
      replace xa2 := Lib.hid (xa2.out.stay hb)
      replace xb2 := Lib.hid (xb2.out.stay hb)
      replace HA3 := Lib.hid (HA3.out.stay hb)
      replace xa3 := Lib.hid (xa3.out.stay hb)
      replace HA4 := Lib.hid (HA4.out.stay hb)
      replace xa4 := Lib.hid (xa4.out.stay hb)
      clear hb a0 a1 k0 k1
      have a0 := bb.out.cell0
      have a1 := bb.out.cell1
      have k0 := by_.out.cell0
      have k1 := by_.out.cell1
      go_wp2_with fail
      refine (kit_keptInt _ _ y _ HLB.out HV.out HLY.out).mono ?_
      rintro e w11 ⟨rfl, hb⟩
      replace HU := Lib.hid (HU.out.stay hb)
      replace HV := Lib.hid (HV.out.stay hb)
      replace HLA := Lib.hid (HLA.out.stay hb)
      replace HLB := Lib.hid (HLB.out.stay hb)
      replace bx := Lib.hid (bx.out.stay hb)
      replace by_ := Lib.hid (by_.out.stay hb)
      replace ba := Lib.hid (ba.out.stay hb)
      replace bb := Lib.hid (bb.out.stay hb)
      replace B := Lib.hid (B.out.stay hb)
      replace HA1 := Lib.hid (HA1.out.stay hb)
      replace HB1 := Lib.hid (HB1.out.stay hb)
      replace xa1 := Lib.hid (xa1.out.stay hb)
      replace xb1 := Lib.hid (xb1.out.stay hb)
      replace HA2 := Lib.hid (HA2.out.stay hb)
      replace HB2 := Lib.hid (HB2.out.stay hb)
      replace xa2 := Lib.hid (xa2.out.stay hb)
      replace xb2 := Lib.hid (xb2.out.stay hb)
      replace HA3 := Lib.hid (HA3.out.stay hb)
      replace xa3 := Lib.hid (xa3.out.stay hb)
      replace HA4 := Lib.hid (HA4.out.stay hb)
      replace xa4 := Lib.hid (xa4.out.stay hb)
      clear hb a0 a1 k0 k1
      clear HLA HLB ba bb
      have a0 := bx.out.cell0
      have a1 := bx.out.cell1
      have k0 := by_.out.cell0
      have k1 := by_.out.cell1
      go_wp2_with fail
      refine (u17_Floor HC.out HU.out HV.out HLY.out).mono ?_
      rintro e w5 ⟨a5, b5, rfl, ha, hc, hb⟩
      obtain ⟨ba5, Aa5, la5, ca5, rfl, HA5⟩ := ha.open
      obtain ⟨bb5, Ab5, lb5, cb5, rfl, HB5⟩ := hc.open
      replace HU := Lib.hid (HU.out.stay hb)
      replace HV := Lib.hid (HV.out.stay hb)
      replace bx := Lib.hid (bx.out.stay hb)
      replace by_ := Lib.hid (by_.out.stay hb)
      replace B := Lib.hid (B.out.stay hb)
      replace HA1 := Lib.hid (HA1.out.stay hb)
      replace HB1 := Lib.hid (HB1.out.stay hb)
      replace xa1 := Lib.hid (xa1.out.stay hb)
      replace xb1 := Lib.hid (xb1.out.stay hb)
      replace HA2 := Lib.hid (HA2.out.stay hb)
      replace HB2 := Lib.hid (HB2.out.stay hb)
      replace xa2 := Lib.hid (xa2.out.stay hb)
      replace xb2 := Lib.hid (xb2.out.stay hb)
      replace HA3 := Lib.hid (HA3.out.stay hb)
      replace xa3 := Lib.hid (xa3.out.stay hb)
      replace HA4 := Lib.hid (HA4.out.stay hb)
      replace xa4 := Lib.hid (xa4.out.stay hb)
      clear ha hc hb a0 a1 k0 k1
      go_upto_region 12 with (fail)
      obtain ⟨W5, ga5, gb5, hW, hg, hr, xa5, xb5, G_ga5, S_W5, hb⟩ := boxH2 w5 (.bool ba5) (.slice Aa5 la5 ca5) (.bool bb5) (.slice Ab5 lb5 cb5)
      rw [hW, hr, hg]
      replace HU := Lib.hid (HU.out.stay hb)
      replace HV := Lib.hid (HV.out.stay hb)
      replace bx := Lib.hid (bx.out.stay hb)
      replace by_ := Lib.hid (by_.out.stay hb)
      replace B := Lib.hid (B.out.stay hb)
      replace HA1 := Lib.hid (HA1.out.stay hb)
      replace HB1 := Lib.hid (HB1.out.stay hb)
      replace xa1 := Lib.hid (xa1.out.stay hb)
      replace xb1 := Lib.hid (xb1.out.stay hb)
      replace HA2 := Lib.hid (HA2.out.stay hb)
      replace HB2 := Lib.hid (HB2.out.stay hb)
      replace xa2 := Lib.hid (xa2.out.stay hb)
      replace xb2 := Lib.hid (xb2.out.stay hb)
      replace HA3 := Lib.hid (HA3.out.stay hb)
      replace xa3 := Lib.hid (xa3.out.stay hb)
      replace HA4 := Lib.hid (HA4.out.stay hb)
      replace xa4 := Lib.hid (xa4.out.stay hb)
      replace HA5 := Lib.hid (HA5.out.stay hb)
      replace HB5 := Lib.hid (HB5.out.stay hb)
      have B_W5 := Lib.hid (show Since w5 W5 from hb)
      clear hW hg hr hb
      clear G_ga5 S_W5 B_W5
      have a0 := bx.out.cell0
      have a1 := bx.out.cell1
      have k0 := by_.out.cell0
      have k1 := by_.out.cell1
      go_wp2_with fail
      refine (u17_Trunc HC.out HU.out HV.out HLY.out).mono ?_
      rintro e w6 ⟨a6, b6, rfl, ha, hc, hb⟩
      obtain ⟨ba6, Aa6, la6, ca6, rfl, HA6⟩ := ha.open
      obtain ⟨bb6, Ab6, lb6, cb6, rfl, HB6⟩ := hc.open
      replace HU := Lib.hid (HU.out.stay hb)
      replace HV := Lib.hid (HV.out.stay hb)
      replace bx := Lib.hid (bx.out.stay hb)
      replace by_ := Lib.hid (by_.out.stay hb)
      replace B := Lib.hid (B.out.stay hb)
      replace HA1 := Lib.hid (HA1.out.stay hb)
      replace HB1 := Lib.hid (HB1.out.stay hb)
      replace xa1 := Lib.hid (xa1.out.stay hb)
      replace xb1 := Lib.hid (xb1.out.stay hb)
      replace HA2 := Lib.hid (HA2.out.stay hb)
      replace HB2 := Lib.hid (HB2.out.stay hb)
      replace xa2 := Lib.hid (xa2.out.stay hb)
      replace xb2 := Lib.hid (xb2.out.stay hb)
      replace HA3 := Lib.hid (HA3.out.stay hb)
      replace xa3 := Lib.hid (xa3.out.stay hb)
      replace HA4 := Lib.hid (HA4.out.stay hb)
      replace xa4 := Lib.hid (xa4.out.stay hb)
      replace HA5 := Lib.hid (HA5.out.stay hb)
      replace HB5 := Lib.hid (HB5.out.stay hb)
      replace xa5 := Lib.hid (xa5.out.stay hb)
      replace xb5 := Lib.hid (xb5.out.stay hb)
      clear ha hc hb a0 a1 k0 k1
      go_upto_region 13 with (fail)
      obtain ⟨W6, ga6, gb6, hW, hg, hr, xa6, xb6, G_ga6, S_W6, hb⟩ := boxH2 w6 (.bool ba6) (.slice Aa6 la6 ca6) (.bool bb6) (.slice Ab6 lb6 cb6)
      rw [hW, hr, hg]
      replace HU := Lib.hid (HU.out.stay hb)
      replace HV := Lib.hid (HV.out.stay hb)
      replace bx := Lib.hid (bx.out.stay hb)
      replace by_ := Lib.hid (by_.out.stay hb)
      replace B := Lib.hid (B.out.stay hb)
      replace HA1 := Lib.hid (HA1.out.stay hb)
      replace HB1 := Lib.hid (HB1.out.stay hb)
      replace xa1 := Lib.hid (xa1.out.stay hb)
      replace xb1 := Lib.hid (xb1.out.stay hb)
      replace HA2 := Lib.hid (HA2.out.stay hb)
      replace HB2 := Lib.hid (HB2.out.stay hb)
      replace xa2 := Lib.hid (xa2.out.stay hb)
      replace xb2 := Lib.hid (xb2.out.stay hb)
      replace HA3 := Lib.hid (HA3.out.stay hb)
      replace xa3 := Lib.hid (xa3.out.stay hb)
      replace HA4 := Lib.hid (HA4.out.stay hb)
      replace xa4 := Lib.hid (xa4.out.stay hb)
      replace HA5 := Lib.hid (HA5.out.stay hb)
      replace HB5 := Lib.hid (HB5.out.stay hb)
      replace xa5 := Lib.hid (xa5.out.stay hb)
      replace xb5 := Lib.hid (xb5.out.stay hb)
      replace HA6 := Lib.hid (HA6.out.stay hb)
      replace HB6 := Lib.hid (HB6.out.stay hb)
      have B_W6 := Lib.hid (show Since w6 W6 from hb)
      clear hW hg hr hb
      clear G_ga6 S_W6 B_W6
      have a0 := bx.out.cell0
      have a1 := bx.out.cell1
      have k0 := by_.out.cell0
      have k1 := by_.out.cell1
      go_wp2_with fail
      refine (u17_Exact HC.out HU.out HV.out HLY.out).mono ?_
      rintro e w7 ⟨a7, rfl, ha, hb⟩
      obtain ⟨ba7, Aa7, la7, ca7, rfl, HA7⟩ := ha.open
      replace HU := Lib.hid (HU.out.stay hb)
      replace HV := Lib.hid (HV.out.stay hb)
      replace bx := Lib.hid (bx.out.stay hb)
      replace by_ := Lib.hid (by_.out.stay hb)
      replace B := Lib.hid (B.out.stay hb)
      replace HA1 := Lib.hid (HA1.out.stay hb)
      replace HB1 := Lib.hid (HB1.out.stay hb)
      replace xa1 := Lib.hid (xa1.out.stay hb)
      replace xb1 := Lib.hid (xb1.out.stay hb)
      replace HA2 := Lib.hid (HA2.out.stay hb)
      replace HB2 := Lib.hid (HB2.out.stay hb)
      replace xa2 := Lib.hid (xa2.out.stay hb)
      replace xb2 := Lib.hid (xb2.out.stay hb)
      replace HA3 := Lib.hid (HA3.out.stay hb)
      replace xa3 := Lib.hid (xa3.out.stay hb)
      replace HA4 := Lib.hid (HA4.out.stay hb)
      replace xa4 := Lib.hid (xa4.out.stay hb)
      replace HA5 := Lib.hid (HA5.out.stay hb)
      replace HB5 := Lib.hid (HB5.out.stay hb)
      replace xa5 := Lib.hid (xa5.out.stay hb)
      replace xb5 := Lib.hid (xb5.out.stay hb)
      replace HA6 := Lib.hid (HA6.out.stay hb)
      replace HB6 := Lib.hid (HB6.out.stay hb)
      replace xa6 := Lib.hid (xa6.out.stay hb)
      replace xb6 := Lib.hid (xb6.out.stay hb)
      clear ha hb a0 a1 k0 k1
      go_upto_region 14 with (fail)
      obtain ⟨W7, ga7, hW, hg, xa7, G_ga7, S_W7, hb⟩ := boxH w7 (.bool ba7) (.slice Aa7 la7 ca7)
      rw [hW, hg]
      replace HU := Lib.hid (HU.out.stay hb)
      replace HV := Lib.hid (HV.out.stay hb)
      replace bx := Lib.hid (bx.out.stay hb)
      replace by_ := Lib.hid (by_.out.stay hb)
      replace B := Lib.hid (B.out.stay hb)
      replace HA1 := Lib.hid (HA1.out.stay hb)
      replace HB1 := Lib.hid (HB1.out.stay hb)
      replace xa1 := Lib.hid (xa1.out.stay hb)
      replace xb1 := Lib.hid (xb1.out.stay hb)
      replace HA2 := Lib.hid (HA2.out.stay hb)
      replace HB2 := Lib.hid (HB2.out.stay hb)
      replace xa2 := Lib.hid (xa2.out.stay hb)
      replace xb2 := Lib.hid (xb2.out.stay hb)
      replace HA3 := Lib.hid (HA3.out.stay hb)
      replace xa3 := Lib.hid (xa3.out.stay hb)
      replace HA4 := Lib.hid (HA4.out.stay hb)
      replace xa4 := Lib.hid (xa4.out.stay hb)
      replace HA5 := Lib.hid (HA5.out.stay hb)
      replace HB5 := Lib.hid (HB5.out.stay hb)
      replace xa5 := Lib.hid (xa5.out.stay hb)
      replace xb5 := Lib.hid (xb5.out.stay hb)
      replace HA6 := Lib.hid (HA6.out.stay hb)
      replace HB6 := Lib.hid (HB6.out.stay hb)
      replace xa6 := Lib.hid (xa6.out.stay hb)
      replace xb6 := Lib.hid (xb6.out.stay hb)
      replace HA7 := Lib.hid (HA7.out.stay hb)
      have B_W7 := Lib.hid (show Since w7 W7 from hb)
      clear hW hg hb
      clear G_ga7 S_W7 B_W7
      have a0 := bx.out.cell0
      have a1 := bx.out.cell1
      have k0 := by_.out.cell0
      have k1 := by_.out.cell1
      go_wp2_with fail
      refine (u17_Mod HC.out HU.out HV.out HLY.out).mono ?_
      rintro e w8 ⟨a8, rfl, ha, hb⟩
      obtain ⟨ba8, Aa8, la8, ca8, rfl, HA8⟩ := ha.open
      replace HU := Lib.hid (HU.out.stay hb)
      replace HV := Lib.hid (HV.out.stay hb)
      replace bx := Lib.hid (bx.out.stay hb)
      replace by_ := Lib.hid (by_.out.stay hb)
      replace B := Lib.hid (B.out.stay hb)
      replace HA1 := Lib.hid (HA1.out.stay hb)
      replace HB1 := Lib.hid (HB1.out.stay hb)
      replace xa1 := Lib.hid (xa1.out.stay hb)
      replace xb1 := Lib.hid (xb1.out.stay hb)
      replace HA2 := Lib.hid (HA2.out.stay hb)
      replace HB2 := Lib.hid (HB2.out.stay hb)
      replace xa2 := Lib.hid (xa2.out.stay hb)
      replace xb2 := Lib.hid (xb2.out.stay hb)
      replace HA3 := Lib.hid (HA3.out.stay hb)
      replace xa3 := Lib.hid (xa3.out.stay hb)
      replace HA4 := Lib.hid (HA4.out.stay hb)
      replace xa4 := Lib.hid (xa4.out.stay hb)
      replace HA5 := Lib.hid (HA5.out.stay hb)
      replace HB5 := Lib.hid (HB5.out.stay hb)
      replace xa5 := Lib.hid (xa5.out.stay hb)
      replace xb5 := Lib.hid (xb5.out.stay hb)
      replace HA6 := Lib.hid (HA6.out.stay hb)
      replace HB6 := Lib.hid (HB6.out.stay hb)
      replace xa6 := Lib.hid (xa6.out.stay hb)
      replace xb6 := Lib.hid (xb6.out.stay hb)
      replace HA7 := Lib.hid (HA7.out.stay hb)
      replace xa7 := Lib.hid (xa7.out.stay hb)
      clear ha hb a0 a1 k0 k1
      go_upto_region 15 with (fail)
      obtain ⟨W8, ga8, hW, hg, xa8, G_ga8, S_W8, hb⟩ := boxH w8 (.bool ba8) (.slice Aa8 la8 ca8)
      rw [hW, hg]
      replace HU := Lib.hid (HU.out.stay hb)
      replace HV := Lib.hid (HV.out.stay hb)
      replace bx := Lib.hid (bx.out.stay hb)
      replace by_ := Lib.hid (by_.out.stay hb)
      replace B := Lib.hid (B.out.stay hb)
      replace HA1 := Lib.hid (HA1.out.stay hb)
      replace HB1 := Lib.hid (HB1.out.stay hb)
      replace xa1 := Lib.hid (xa1.out.stay hb)
      replace xb1 := Lib.hid (xb1.out.stay hb)
      replace HA2 := Lib.hid (HA2.out.stay hb)
      replace HB2 := Lib.hid (HB2.out.stay hb)
      replace xa2 := Lib.hid (xa2.out.stay hb)
      replace xb2 := Lib.hid (xb2.out.stay hb)
      replace HA3 := Lib.hid (HA3.out.stay hb)
      replace xa3 := Lib.hid (xa3.out.stay hb)
      replace HA4 := Lib.hid (HA4.out.stay hb)
      replace xa4 := Lib.hid (xa4.out.stay hb)
      replace HA5 := Lib.hid (HA5.out.stay hb)
      replace HB5 := Lib.hid (HB5.out.stay hb)
      replace xa5 := Lib.hid (xa5.out.stay hb)
      replace xb5 := Lib.hid (xb5.out.stay hb)
      replace HA6 := Lib.hid (HA6.out.stay hb)
      replace HB6 := Lib.hid (HB6.out.stay hb)
      replace xa6 := Lib.hid (xa6.out.stay hb)
      replace xb6 := Lib.hid (xb6.out.stay hb)
      replace HA7 := Lib.hid (HA7.out.stay hb)
      replace xa7 := Lib.hid (xa7.out.stay hb)
      replace HA8 := Lib.hid (HA8.out.stay hb)
      have B_W8 := Lib.hid (show Since w8 W8 from hb)
      clear hW hg hb
      clear G_ga8 S_W8 B_W8
      clear HU HV bx by_
      have HLN := Lib.hid HC.out.len
      go_upto_region 17 with (fail)
      have a0 := xa1.out.cell0
      have a1 := xa1.out.cell1
      have k0 := xa5.out.cell0
      have k1 := xa5.out.cell1
      go_wp2_with fail
      refine (kit_raw _ _ q q _ HA1.out HA5.out HLN.out.1).mono ?_
      rintro e z0 ⟨rfl, hb⟩
      rw [decide_eq_true rfl]
      replace B := Lib.hid (B.out.stay hb)
      replace xb1 := Lib.hid (xb1.out.stay hb)
      replace xb5 := Lib.hid (xb5.out.stay hb)
      replace HB1 := Lib.hid (HB1.out.stay hb)
      replace HB5 := Lib.hid (HB5.out.stay hb)
      replace xa2 := Lib.hid (xa2.out.stay hb)
      replace xa6 := Lib.hid (xa6.out.stay hb)
      replace HA2 := Lib.hid (HA2.out.stay hb)
      replace HA6 := Lib.hid (HA6.out.stay hb)
      replace xb2 := Lib.hid (xb2.out.stay hb)
      replace xb6 := Lib.hid (xb6.out.stay hb)
      replace HB2 := Lib.hid (HB2.out.stay hb)
      replace HB6 := Lib.hid (HB6.out.stay hb)
      replace xa3 := Lib.hid (xa3.out.stay hb)
      replace xa7 := Lib.hid (xa7.out.stay hb)
      replace HA3 := Lib.hid (HA3.out.stay hb)
      replace HA7 := Lib.hid (HA7.out.stay hb)
      replace xa4 := Lib.hid (xa4.out.stay hb)
      replace xa8 := Lib.hid (xa8.out.stay hb)
      replace HA4 := Lib.hid (HA4.out.stay hb)
      replace HA8 := Lib.hid (HA8.out.stay hb)
      clear hb a0 a1 k0 k1 xa1 xa5 HA1 HA5
      have a0 := xb1.out.cell0
      have a1 := xb1.out.cell1
      have k0 := xb5.out.cell0
      have k1 := xb5.out.cell1
      go_wp2_with fail
      refine (kit_raw _ _ r r _ HB1.out HB5.out HLN.out.2.1).mono ?_
      rintro e z1 ⟨rfl, hb⟩
      rw [decide_eq_true rfl]
      replace B := Lib.hid (B.out.stay hb)
      replace xa2 := Lib.hid (xa2.out.stay hb)
      replace xa6 := Lib.hid (xa6.out.stay hb)
      replace HA2 := Lib.hid (HA2.out.stay hb)
      replace HA6 := Lib.hid (HA6.out.stay hb)
      replace xb2 := Lib.hid (xb2.out.stay hb)
      replace xb6 := Lib.hid (xb6.out.stay hb)
      replace HB2 := Lib.hid (HB2.out.stay hb)
      replace HB6 := Lib.hid (HB6.out.stay hb)
      replace xa3 := Lib.hid (xa3.out.stay hb)
      replace xa7 := Lib.hid (xa7.out.stay hb)
      replace HA3 := Lib.hid (HA3.out.stay hb)
      replace HA7 := Lib.hid (HA7.out.stay hb)
      replace xa4 := Lib.hid (xa4.out.stay hb)
      replace xa8 := Lib.hid (xa8.out.stay hb)
      replace HA4 := Lib.hid (HA4.out.stay hb)
      replace HA8 := Lib.hid (HA8.out.stay hb)
      clear hb a0 a1 k0 k1 xb1 xb5 HB1 HB5
      have a0 := xa2.out.cell0
      have a1 := xa2.out.cell1
      have k0 := xa6.out.cell0
      have k1 := xa6.out.cell1
      go_wp2_with fail
      refine (kit_raw _ _ p p _ HA2.out HA6.out HLN.out.2.2.1).mono ?_
      rintro e z2 ⟨rfl, hb⟩
      rw [decide_eq_true rfl]
      replace B := Lib.hid (B.out.stay hb)
      replace xb2 := Lib.hid (xb2.out.stay hb)
      replace xb6 := Lib.hid (xb6.out.stay hb)
      replace HB2 := Lib.hid (HB2.out.stay hb)
      replace HB6 := Lib.hid (HB6.out.stay hb)
      replace xa3 := Lib.hid (xa3.out.stay hb)
      replace xa7 := Lib.hid (xa7.out.stay hb)
      replace HA3 := Lib.hid (HA3.out.stay hb)
      replace HA7 := Lib.hid (HA7.out.stay hb)
      replace xa4 := Lib.hid (xa4.out.stay hb)
      replace xa8 := Lib.hid (xa8.out.stay hb)
      replace HA4 := Lib.hid (HA4.out.stay hb)
      replace HA8 := Lib.hid (HA8.out.stay hb)
      clear hb a0 a1 k0 k1 xa2 xa6 HA2 HA6
      have a0 := xb2.out.cell0
      have a1 := xb2.out.cell1
      have k0 := xb6.out.cell0
      have k1 := xb6.out.cell1
      go_wp2_with fail
      refine (kit_raw _ _ s s _ HB2.out HB6.out HLN.out.2.2.2.1).mono ?_
      rintro e z3 ⟨rfl, hb⟩
      rw [decide_eq_true rfl]
      replace B := Lib.hid (B.out.stay hb)
      replace xa3 := Lib.hid (xa3.out.stay hb)
      replace xa7 := Lib.hid (xa7.out.stay hb)
      replace HA3 := Lib.hid (HA3.out.stay hb)
      replace HA7 := Lib.hid (HA7.out.stay hb)
      replace xa4 := Lib.hid (xa4.out.stay hb)
      replace xa8 := Lib.hid (xa8.out.stay hb)
      replace HA4 := Lib.hid (HA4.out.stay hb)
      replace HA8 := Lib.hid (HA8.out.stay hb)
      clear hb a0 a1 k0 k1 xb2 xb6 HB2 HB6
      have a0 := xa3.out.cell0
      have a1 := xa3.out.cell1
      have k0 := xa7.out.cell0
      have k1 := xa7.out.cell1
      go_wp2_with fail
      refine (kit_raw _ _ z z _ HA3.out HA7.out HLN.out.2.2.2.2.1).mono ?_
      rintro e z4 ⟨rfl, hb⟩
      rw [decide_eq_true rfl]
      replace B := Lib.hid (B.out.stay hb)
      replace xa4 := Lib.hid (xa4.out.stay hb)
      replace xa8 := Lib.hid (xa8.out.stay hb)
      replace HA4 := Lib.hid (HA4.out.stay hb)
      replace HA8 := Lib.hid (HA8.out.stay hb)
      clear hb a0 a1 k0 k1 xa3 xa7 HA3 HA7
      have a0 := xa4.out.cell0
      have a1 := xa4.out.cell1
      have k0 := xa8.out.cell0
      have k1 := xa8.out.cell1
      go_wp2_with fail
      refine (kit_raw _ _ m m _ HA4.out HA8.out HLN.out.2.2.2.2.2).mono ?_
      rintro e z5 ⟨rfl, hb⟩
      rw [decide_eq_true rfl]
      replace B := Lib.hid (B.out.stay hb)
      clear hb a0 a1 k0 k1 xa4 xa8 HA4 HA8
      go_wp2_with fail
      go_ret
      exact ⟨rfl, B.out⟩
end Go.Proofs.YtonbhpadoplpkaaGreat
