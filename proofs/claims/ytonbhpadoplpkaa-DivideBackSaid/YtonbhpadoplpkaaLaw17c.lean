import Derived.Test.YtonbhpadoplpkaaLaw17
import Derived.Test.YtonbhpadoplpkaaKar4
/- The law of layer 17: sign, back, nearer; plain facts. -/
namespace Go.Proofs.Ytonbhpadoplpkaa
open Go.RowKit Go.Deep
/-- A record's sign. -/
def sgnR (x : Raw) : Int := if x.2.length = 0 then 0 else if x.1 then -1 else 1
set_option maxRecDepth 100000 in
theorem law17_sign (v : Value) (x : Raw) (w : World) (hv : RawV w v x) :
    Calls Try.prog 16 #[v] w fun e w' => e = .returned (.int .i64 (sgnR x)) ∧ Below w.heap.size w w' := by
  obtain ⟨b1, A1, l1, c1, rfl, HV⟩ := hv.open
  have HP := Lib.hid HV.out.parts
  clear hv
  by_cases h0 : l1 = 0
  · subst h0
    have HE := Lib.hid (show sgnR x = 0 by unfold sgnR; rw [if_pos HP.out.2.1.symm])
    go_enter Try.func16, Try.ntmps16
    go_wp2_with fail
    go_ret
    rw [HE.out]
    exact ⟨rfl, (Below.refl _ w).alloc (Nat.le_refl _) _⟩
  · have h0I : ((l1 : Int) == 0) = false := beq_eq_false_iff_ne.2 (by omega)
    have HN := Lib.hid (show x.2.length ≠ 0 by rw [← HP.out.2.1]; exact h0)
    clear h0
    cases b1 with
    | true =>
      have HE := Lib.hid (show sgnR x = -1 by unfold sgnR; rw [if_neg HN.out, ← HP.out.1]; rfl)
      go_enter Try.func16, Try.ntmps16
      go_wp2_with fail
      go_ret
      rw [HE.out]
      exact ⟨rfl, (Below.refl _ w).alloc (Nat.le_refl _) _⟩
    | false =>
      have HE := Lib.hid (show sgnR x = 1 by unfold sgnR; rw [if_neg HN.out, ← HP.out.1]; rfl)
      go_enter Try.func16, Try.ntmps16
      go_wp2_with fail
      go_ret
      rw [HE.out]
      exact ⟨rfl, (Below.refl _ w).alloc (Nat.le_refl _) _⟩
theorem sgnR_int (z : Int) : sgnR (rawOf z) = z.sign := by
  unfold sgnR rawOf
  rcases Int.lt_trichotomy z 0 with h | h | h
  · have h1 : (limbs z.natAbs).length ≠ 0 := fun h2 => by have := limbs_eq_nil.1 (List.eq_nil_of_length_eq_zero h2); omega
    rw [if_neg h1, decide_eq_true h, if_pos rfl, Int.sign_eq_neg_one_of_neg h]
  · subst h
    rw [if_pos (by rw [show (0 : Int).natAbs = 0 from rfl, limbs_zero]; rfl)]; rfl
  · have h1 : (limbs z.natAbs).length ≠ 0 := fun h2 => by have := limbs_eq_nil.1 (List.eq_nil_of_length_eq_zero h2); omega
    rw [if_neg h1, decide_eq_false (by omega)]
    rw [Int.sign_eq_one_of_pos h]; rfl
set_option maxRecDepth 100000 in
theorem law17_nearer (u v : Value) (x y : Int) (w : World) (hu : IntV w u x) (hv : IntV w v y) (lx : lc x.natAbs ≤ 4096) (ly : lc y.natAbs ≤ 4096) (hlt : x.natAbs < y.natAbs) :
    Calls Try.prog 18 #[u, v] w fun e w' => e = .returned (.bool true) ∧ Below w.heap.size w w' := by
  obtain ⟨b1, A1, l1, c1, rfl, HU⟩ := hu.open
  obtain ⟨b2, A2, l2, c2, rfl, HV⟩ := hv.open
  have HL := Lib.hid (And.intro lx (And.intro ly hlt))
  clear hu hv lx ly hlt
  go_enter Try.func18, Try.ntmps18
  go_upto_region 1 with (fail)
  obtain ⟨W0, g, h, hW, hg, hr, bx, by_, G_g, S_W0, hb⟩ := boxH2 w (.bool b1) (.slice A1 l1 c1) (.bool b2) (.slice A2 l2 c2)
  rw [hW, hr, hg]
  replace HU := Lib.hid (HU.out.stay hb)
  replace HV := Lib.hid (HV.out.stay hb)
  have B_W0 := Lib.hid (show Since w W0 from hb)
  clear hW hg hr hb
  have HG := Lib.hid (show w.heap.size ≤ g ∧ w.heap.size ≤ h ∧ g ≠ h by have := G_g.out; omega)
  have a0 := bx.out.cell0
  have f0 := bx.out.free
  have k0 := by_.out.cell0
  have f1 := by_.out.free
  have hne : ¬ g = h := HG.out.2.2
  go_upto_region 2 with (fail)
  obtain ⟨Wa, hWa, ba, pa⟩ := bx.out.write0 (.bool false)
  obtain ⟨Wb, hWb, bb, pb⟩ := (by_.out.put pa (Ne.symm HG.out.2.2)).write0 (.bool false)
  rw [hWa, hWb]
  replace ba := Lib.hid (ba.out.put pb HG.out.2.2)
  replace HU := Lib.hid ((HU.out.put pa).put pb).abs
  replace HV := Lib.hid ((HV.out.put pa).put pb).abs
  replace B_W0 := Lib.hid ((B_W0.out.put pa HG.out.1).put pb HG.out.2.1)
  clear a0 f0 k0 f1 hWa hWb pa pb bx by_ hne
  have a0 := ba.out.cell0
  have a1 := ba.out.cell1
  have k0 := bb.out.cell0
  have k1 := bb.out.cell1
  go_wp2_with fail
  refine (limb_Cmp _ _ (x.natAbs : Int) (y.natAbs : Int) _ HU.out HV.out (by rw [Int.natAbs_natCast]; exact HL.out.1) (by rw [Int.natAbs_natCast]; exact HL.out.2.1)).mono ?_
  rintro e w2 ⟨rfl, hb⟩
  rw [cmpZ_lt (by have := HL.out.2.2; omega)]
  replace B_W0 := Lib.hid (B_W0.out.stay hb)
  clear hb a0 a1 k0 k1
  go_wp2_with fail
  go_ret
  exact ⟨rfl, B_W0.out⟩
set_option maxRecDepth 100000 in
theorem law17_back (t u v s : Value) (q b r a : Int) (w : World) (h1 : IntV w t q) (h2 : IntV w u b) (h3 : IntV w v r) (h4 : IntV w s a) (l1 : lc q.natAbs ≤ 4096) (l2 : lc b.natAbs ≤ 4096) (l3 : lc r.natAbs ≤ 4096) (l4 : lc a.natAbs ≤ 4096) (l5 : lc (q * b).natAbs ≤ 4096) (heq : q * b + r = a) :
    Calls Try.prog 17 #[t, u, v, s] w fun e w' => e = .returned (.bool true) ∧ Below w.heap.size w w' := by
  obtain ⟨b1, A1, k1, c1, rfl, H1⟩ := h1.open
  obtain ⟨b2, A2, k2, c2, rfl, H2⟩ := h2.open
  obtain ⟨b3, A3, k3, c3, rfl, H3⟩ := h3.open
  obtain ⟨b4, A4, k4, c4, rfl, H4⟩ := h4.open
  have HL := Lib.hid (And.intro l1 (And.intro l2 (And.intro l3 (And.intro l4 l5))))
  have HE := Lib.hid heq
  clear h1 h2 h3 h4 l1 l2 l3 l4 l5 heq
  go_enter Try.func17, Try.ntmps17
  go_upto_region 1 with (fail)
  obtain ⟨W0, g1, g2, g3, g4, hW, hg, hh, hr, hq, x1, x2, x3, x4, G_g1, S_W0, hb⟩ := boxH4 w (.bool b1) (.slice A1 k1 c1) (.bool b2) (.slice A2 k2 c2) (.bool b3) (.slice A3 k3 c3) (.bool b4) (.slice A4 k4 c4)
  rw [hW, hq, hr, hh, hg]
  replace H1 := Lib.hid (H1.out.stay hb)
  replace H2 := Lib.hid (H2.out.stay hb)
  replace H3 := Lib.hid (H3.out.stay hb)
  replace H4 := Lib.hid (H4.out.stay hb)
  have B_W0 := Lib.hid (show Since w W0 from hb)
  clear hW hg hh hr hq hb
  have a0 := x1.out.cell0
  have a1 := x1.out.cell1
  have k0 := x2.out.cell0
  have k1 := x2.out.cell1
  go_wp2_with fail
  refine (times_Mul_any _ _ q b _ H1.out H2.out HL.out.1 HL.out.2.1).mono ?_
  rintro e w1 ⟨p, rfl, hp, hb⟩
  rw [longR_ok HL.out.2.2.2.2] at hp
  rw [longE_ok HL.out.2.2.2.2]
  obtain ⟨b5, A5, k5, c5, rfl, H5⟩ := hp.rawV.open
  replace H5 := Lib.hid H5.out.int
  replace H3 := Lib.hid (H3.out.stay hb)
  replace H4 := Lib.hid (H4.out.stay hb)
  replace x3 := Lib.hid (x3.out.stay hb)
  replace x4 := Lib.hid (x4.out.stay hb)
  replace B_W0 := Lib.hid (B_W0.out.stay hb)
  clear hp hb a0 a1 k0 k1 H1 H2 x1 x2
  go_upto_region 2 with (fail)
  obtain ⟨W1, g5, hW, hg, x5, G_g5, S_W1, hb⟩ := boxH w1 (.bool b5) (.slice A5 k5 c5)
  rw [hW, hg]
  replace H3 := Lib.hid (H3.out.stay hb)
  replace H4 := Lib.hid (H4.out.stay hb)
  replace H5 := Lib.hid (H5.out.stay hb)
  replace x3 := Lib.hid (x3.out.stay hb)
  replace x4 := Lib.hid (x4.out.stay hb)
  replace B_W0 := Lib.hid (B_W0.out.stay hb)
  have B_W1 := Lib.hid (show Since w1 W1 from hb)
  clear hW hg hb
  have a0 := x5.out.cell0
  have a1 := x5.out.cell1
  have k0 := x3.out.cell0
  have k1 := x3.out.cell1
  go_wp2_with fail
  refine (limb_Add _ _ (q * b) r _ H5.out H3.out HL.out.2.2.2.2 HL.out.2.2.1).mono ?_
  rintro e w2 ⟨p, rfl, hp, hb⟩
  rw [HE.out, longR_ok HL.out.2.2.2.1] at hp
  rw [HE.out, longE_ok HL.out.2.2.2.1]
  obtain ⟨b6, A6, k6, c6, rfl, H6⟩ := hp.rawV.open
  replace H4 := Lib.hid (H4.out.stay hb)
  replace x4 := Lib.hid (x4.out.stay hb)
  replace B_W0 := Lib.hid (B_W0.out.stay hb)
  clear hp hb a0 a1 k0 k1 H5 H3 x5 x3
  go_upto_region 3 with (fail)
  obtain ⟨W2, g6, hW, hg, x6, G_g6, S_W2, hb⟩ := boxH w2 (.bool b6) (.slice A6 k6 c6)
  rw [hW, hg]
  replace H4 := Lib.hid (H4.out.stay hb)
  replace H6 := Lib.hid (H6.out.stay hb)
  replace x4 := Lib.hid (x4.out.stay hb)
  replace B_W0 := Lib.hid (B_W0.out.stay hb)
  have B_W2 := Lib.hid (show Since w2 W2 from hb)
  clear hW hg hb
  have a0 := x6.out.cell0
  have a1 := x6.out.cell1
  have k0 := x4.out.cell0
  have k1 := x4.out.cell1
  go_wp2_with fail
  refine (kit_raw _ _ _ _ _ H6.out H4.out.raw (by show lc a.natAbs ≤ _; have := HL.out.2.2.2.1; omega)).mono ?_
  rintro e w3 ⟨rfl, hb⟩
  rw [decide_eq_true rfl]
  replace B_W0 := Lib.hid (B_W0.out.stay hb)
  clear hb a0 a1 k0 k1
  go_wp2_with fail
  go_ret
  exact ⟨rfl, B_W0.out⟩
/-- What is told of two records. -/
def Case17 (x y : Raw) (E : Int) (q r p s z m : Raw) (ok : Bool) (Em : Int) : Prop :=
  (∃ X Y : Int, x = rawOf X ∧ y = rawOf Y ∧ lc X.natAbs ≤ 200 ∧ lc Y.natAbs ≤ 200 ∧ Y ≠ 0 ∧ E = 0 ∧ q = rawOf (X.fdiv Y) ∧ r = rawOf (X.fmod Y) ∧ p = rawOf (X.tdiv Y) ∧ s = rawOf (X.tmod Y) ∧ ok = decide (X.tmod Y = 0) ∧
    z = (if X.tmod Y = 0 then rawOf (X.tdiv Y) else (false, [])) ∧ m = modR X Y ∧ Em = modE Y) ∨
  (wrongE x y = E ∧ E ≠ 0 ∧ q = (false, []) ∧ r = (false, []) ∧ p = (false, []) ∧ s = (false, []) ∧ ok = false ∧ z = (false, []) ∧ m = (false, []) ∧ Em = E)
theorem case17 (x y : Raw) (sx : Small x.2) (sy : Small y.2) (lx : x.2.length ≤ 200) (ly : y.2.length ≤ 200) : ∃ E q r p s z m ok Em, Case17 x y E q r p s z m ok Em := by
  by_cases h0 : wrongE x y = 0
  · unfold wrongE at h0
    split at h0
    · rename_i hr
      rw [Bool.and_eq_true] at hr
      split at h0
      · exact absurd h0 (by decide)
      · rename_i hy
        obtain ⟨X, hX, hlX, _⟩ := right_int_of (b := x.1) sx hr.1
        obtain ⟨Y, hY, hlY, _⟩ := right_int_of (b := y.1) sy hr.2
        exact ⟨0, _, _, _, _, _, _, _, _, .inl ⟨X, Y, hX, hY, by omega, by omega, by
          rintro rfl
          have : lc (0 : Int).natAbs = 0 := by show (limbs 0).length = 0; rw [limbs_zero]; rfl
          omega, rfl, rfl, rfl, rfl, rfl, rfl, rfl, rfl, rfl⟩⟩
    · exact absurd h0 (by decide)
  · exact ⟨_, _, _, _, _, _, _, _, _, .inr ⟨rfl, h0, rfl, rfl, rfl, rfl, rfl, rfl, rfl, rfl⟩⟩
theorem len_of {z : Int} {n : Nat} (h : z.natAbs ≤ n + 1) (hn : lc n ≤ 200) : (rawOf z).2.length ≤ 1099511627776 := by
  have h1 : lc z.natAbs ≤ lc (n + 1) := lc_mono h
  have h2 := lc_add n 1
  have h3 : lc 1 ≤ 1 := one_len
  show lc z.natAbs ≤ _
  omega
section
variable {x y q r p s z m : Raw} {E Em : Int} {ok : Bool}
theorem Case17.len (h : Case17 x y E q r p s z m ok Em) : q.2.length ≤ 1099511627776 ∧ r.2.length ≤ 1099511627776 ∧ p.2.length ≤ 1099511627776 ∧ s.2.length ≤ 1099511627776 ∧ z.2.length ≤ 1099511627776 ∧ m.2.length ≤ 1099511627776 := by
  rcases h with ⟨X, Y, _, _, lX, lY, h0, _, rfl, rfl, rfl, rfl, _, rfl, rfl, _⟩ | ⟨_, _, rfl, rfl, rfl, rfl, _, rfl, rfl, _⟩
  · have ht : (X.tdiv Y).natAbs ≤ X.natAbs := by rw [Int.natAbs_tdiv]; exact Nat.div_le_self _ _
    have hm : (X.tmod Y).natAbs ≤ X.natAbs := by rw [Int.natAbs_tmod]; exact Nat.mod_le _ _
    have hf : (X.fdiv Y).natAbs ≤ X.natAbs + 1 := by
      rcases floor_case X Y h0 with ⟨_, _, h1, _⟩ | ⟨_, h1, _⟩ <;> rw [h1] <;> omega
    have hr := fmod_size X h0
    refine ⟨len_of hf lX, len_of (n := Y.natAbs) (by omega) lY, len_of (n := X.natAbs) (by omega) lX, len_of (n := X.natAbs) (by omega) lX, ?_, ?_⟩
    · split
      · exact len_of (n := X.natAbs) (by omega) lX
      · simp
    · unfold modR
      split
      · simp
      · exact len_of (n := Y.natAbs) (by omega) lY
  · simp
variable {u v : Value} {w : World}
theorem t17_Floor (h : Case17 x y E q r p s z m ok Em) (hu : RawV w u x) (hv : RawV w v y) (hl : y.2.length ≤ 1099511627776) : Calls Try.prog 10 #[u, v] w fun e w' => ∃ a b, e = .returned (.tuple #[a, b, .int .i64 E]) ∧ RawV w' a q ∧ RawV w' b r ∧ Below w.heap.size w w' := by
  rcases h with ⟨X, Y, rfl, rfl, lX, lY, h0, rfl, rfl, rfl, rfl, rfl, rfl, rfl, rfl, rfl⟩ | ⟨hE, h0, rfl, rfl, rfl, rfl, rfl, rfl, rfl, rfl⟩
  · refine (divide_Floor _ _ X Y _ hu.int hv.int (by omega) (by omega) h0 (.inl (by omega))).mono ?_
    rintro e w' ⟨a, b, rfl, ha, hb, -, hw⟩
    exact ⟨a, b, rfl, ha.rawV, hb.rawV, hw⟩
  · refine (divide_Floor_bad _ _ x y _ _ hu hv hE h0).mono ?_
    rintro e w' ⟨rfl, hb⟩
    first
    | exact ⟨_, _, rfl, RawV.none _, RawV.none _, hb⟩
    | exact ⟨_, rfl, RawV.none _, hb⟩
theorem t17_Trunc (h : Case17 x y E q r p s z m ok Em) (hu : RawV w u x) (hv : RawV w v y) (hl : y.2.length ≤ 1099511627776) : Calls Try.prog 12 #[u, v] w fun e w' => ∃ a b, e = .returned (.tuple #[a, b, .int .i64 E]) ∧ RawV w' a p ∧ RawV w' b s ∧ Below w.heap.size w w' := by
  rcases h with ⟨X, Y, rfl, rfl, lX, lY, h0, rfl, rfl, rfl, rfl, rfl, rfl, rfl, rfl, rfl⟩ | ⟨hE, h0, rfl, rfl, rfl, rfl, rfl, rfl, rfl, rfl⟩
  · refine (divide_Trunc _ _ X Y _ hu.int hv.int (by omega) (by omega) h0 (.inl (by omega))).mono ?_
    rintro e w' ⟨a, b, rfl, ha, hb, -, hw⟩
    exact ⟨a, b, rfl, ha.rawV, hb.rawV, hw⟩
  · refine (divide_Trunc_bad _ _ x y _ _ hu hv hE h0).mono ?_
    rintro e w' ⟨rfl, hb⟩
    first
    | exact ⟨_, _, rfl, RawV.none _, RawV.none _, hb⟩
    | exact ⟨_, rfl, RawV.none _, hb⟩
theorem t17_Exact (h : Case17 x y E q r p s z m ok Em) (hu : RawV w u x) (hv : RawV w v y) (hl : y.2.length ≤ 1099511627776) : Calls Try.prog 13 #[u, v] w fun e w' => ∃ a, e = .returned (.tuple #[a, .bool ok, .int .i64 E]) ∧ RawV w' a z ∧ Below w.heap.size w w' := by
  rcases h with ⟨X, Y, rfl, rfl, lX, lY, h0, rfl, rfl, rfl, rfl, rfl, rfl, rfl, rfl, rfl⟩ | ⟨hE, h0, rfl, rfl, rfl, rfl, rfl, rfl, rfl, rfl⟩
  · refine (divide_Exact _ _ X Y _ hu.int hv.int (by omega) (by omega) h0 (.inl (by omega))).mono ?_
    rintro e w' ⟨a, rfl, ha, hw⟩
    exact ⟨a, rfl, ha.rawV, hw⟩
  · refine (divide_Exact_bad _ _ x y _ _ hu hv hE h0).mono ?_
    rintro e w' ⟨rfl, hb⟩
    first
    | exact ⟨_, _, rfl, RawV.none _, RawV.none _, hb⟩
    | exact ⟨_, rfl, RawV.none _, hb⟩
theorem t17_Mod (h : Case17 x y E q r p s z m ok Em) (hu : RawV w u x) (hv : RawV w v y) (hl : y.2.length ≤ 1099511627776) : Calls Try.prog 14 #[u, v] w fun e w' => ∃ a, e = .returned (.tuple #[a, .int .i64 Em]) ∧ RawV w' a m ∧ Below w.heap.size w w' := by
  rcases h with ⟨X, Y, rfl, rfl, lX, lY, h0, rfl, rfl, rfl, rfl, rfl, rfl, rfl, rfl, rfl⟩ | ⟨hE, h0, rfl, rfl, rfl, rfl, rfl, rfl, rfl, rfl⟩
  · refine (divide_Mod _ _ X Y _ hu.int hv.int (by omega) (by omega) h0 (.inl (by omega))).mono ?_
    rintro e w' ⟨a, rfl, ha, hw⟩
    exact ⟨a, rfl, ha.rawV, hw⟩
  · refine (divide_Mod_bad _ _ x y _ _ hu hv hE h0).mono ?_
    rintro e w' ⟨rfl, hb⟩
    first
    | exact ⟨_, _, rfl, RawV.none _, RawV.none _, hb⟩
    | exact ⟨_, rfl, RawV.none _, hb⟩
end
end Go.Proofs.Ytonbhpadoplpkaa
