import Derived.Test.YtmnfokapdipcdaaInt
/- The methods of whole numbers: what each leaves in its receiver. -/
namespace Go.Proofs.Ytmnfokapdipcdaa
open Go.RowKit Go.Deep
theorem signed_not (x : Int) : signed (!(decide (x < 0))) x.natAbs = -x := by
  unfold signed
  by_cases h : x < 0 <;> simp [h] <;> omega
theorem signed_mul (x y : Int) : signed (!(decide (x < 0) == decide (y < 0))) (x.natAbs * y.natAbs) = x * y := by
  have hx := signed_of x
  have hy := signed_of y
  generalize decide (x < 0) = s at *
  generalize decide (y < 0) = t at *
  generalize x.natAbs = m at *
  generalize y.natAbs = n at *
  subst hx; subst hy
  cases s <;> cases t <;> simp [signed, Int.mul_neg, Int.neg_mul]
theorem signed_add (x y : Int) (h : decide (x < 0) = decide (y < 0)) : signed (decide (x < 0)) (x.natAbs + y.natAbs) = x + y := by
  have hx := signed_of x
  have hy := signed_of y
  rw [← h] at hy
  generalize decide (x < 0) = s at *
  generalize x.natAbs = m at *
  generalize y.natAbs = n at *
  subst hx; subst hy
  cases s <;> simp [signed]; omega
theorem signed_sub (x y : Int) (h : decide (x < 0) ≠ decide (y < 0)) (hn : y.natAbs ≤ x.natAbs) : signed (decide (x < 0)) (x.natAbs - y.natAbs) = x + y := by
  unfold signed
  by_cases h1 : x < 0 <;> by_cases h2 : y < 0 <;> simp [h1, h2] at h ⊢ <;> omega

/-- A source: what the walk reads of it. -/
theorem IntAt.open {w : World} {g : Nat} {x : Int} (h : IntAt w g x) : ∃ s A l c, s = decide (x < 0) ∧ l = (limbs x.natAbs).length ∧ w.heap[g]? = some (.cells #[.bool s, .slice A l c] 84) ∧ l ≤ c ∧ Lim w w.heap.size A (limbs x.natAbs) := by
  obtain ⟨A, c, h1, h2, h3⟩ := h
  exact ⟨_, A, _, c, rfl, rfl, h1, h2, h3⟩
theorem Lim.since {w w1 : World} {A : Option Addr} {xs : List Nat} (h : Lim w w.heap.size A xs) (e : Ext Nix w w1) : Lim w1 w1.heap.size A xs := (h.ext (Nat.le_refl _) e).more e.size

set_option maxRecDepth 100000 in
theorem int_neg (g gx : Nat) (z0 x : Int) (w : World) (hg : IntAt w g z0) (hx : IntAt w gx x) (hl : (limbs x.natAbs).length ≤ 1099511627776) :
    Calls Try.prog 82 #[.pointer (some ⟨g, 0, none⟩), .pointer (some ⟨gx, 0, none⟩)] w fun e w' => e = .returned (.pointer (some ⟨g, 0, none⟩)) ∧ IntAt w' g (-x) ∧ Ext (· = g) w w' := by
  obtain ⟨sx, Ax, lx, cx, Sxx, Lxx, hbx, hcx, limx⟩ := hx.open
  have r0x := Later.sign hbx
  have r1x := Later.size hbx
  have k0x := cell0_int hbx
  have k1x := cell1_int hbx
  have Sx := Lib.hid Sxx
  have Ex := And.intro (Lib.hid hl) (Lib.hid (And.intro Lxx hcx))
  clear hl Sxx Lxx hcx hbx
  go_enter Try.func82, Try.ntmps82
  go_wp2_with fail
  refine wp_region_stages (fun w' => ∃ δ : Later Nix w, w' = δ.world) [(false, 0), (false, 1), (false, 2), (false, 3), (false, 4), (false, 5), (false, 6), (false, 7), (false, 8), (false, 9), (true, 10)] 11 [.reads [_, _, _, _, _, _, _, _, _, _], .loud _] [_, _] (by kernel_rfl) (by kernel_rfl) rfl rfl ?_ ?_
  · exact ⟨⟨_, nix_drawn w⟩, rfl⟩
  refine wpStages_reads ?_
  repeat (go_big_quiet_step (fail))
  refine wpQuiet_nil ?_
  refine wpStages_loud rfl ?_
  intro K hK
  go_big_op
  rw [Ex.2.out.1]
  refine (clone_limbs Ax cx (limbs x.natAbs) (w.drewN 1) (Nat.le_refl _) (limx.drewN 1) (by rw [← Ex.2.out.1]; exact Ex.2.out.2) Ex.1.out).mono ?_
  rintro e w1 ⟨A', c', rfl, hc', hlim', hb⟩
  have he : Ext Nix w w1 := (nix_drawn w).later (Ext.of_below hb)
  refine hK _ _ ⟨⟨w1, he⟩, rfl⟩ ?_
  clear hK K
  refine wpStages_nil ?_
  go_wp2_with fail
  refine (int_put' g z0 _ A' c' (limbs x.natAbs) w1 (hg.ext he (fun h => h)) hlim' hc' Ex.1.out).mono ?_
  rintro e w2 ⟨rfl, hz, he2⟩
  rw [val_limbs, Sx.out, signed_not] at hz
  go_wp2_with fail
  go_ret
  exact ⟨rfl, hz, he.after he2 hg.num⟩

set_option maxRecDepth 100000 in
theorem int_abs (g gx : Nat) (z0 x : Int) (w : World) (hg : IntAt w g z0) (hx : IntAt w gx x) (hl : (limbs x.natAbs).length ≤ 1099511627776) :
    Calls Try.prog 91 #[.pointer (some ⟨g, 0, none⟩), .pointer (some ⟨gx, 0, none⟩)] w fun e w' => e = .returned (.pointer (some ⟨g, 0, none⟩)) ∧ IntAt w' g (x.natAbs : Int) ∧ Ext (· = g) w w' := by
  obtain ⟨sx, Ax, lx, cx, Sxx, Lxx, hbx, hcx, limx⟩ := hx.open
  have r0x := Later.sign hbx
  have r1x := Later.size hbx
  have k0x := cell0_int hbx
  have k1x := cell1_int hbx
  have Sx := Lib.hid Sxx
  have Ex := And.intro (Lib.hid hl) (Lib.hid (And.intro Lxx hcx))
  clear hl Sxx Lxx hcx hbx
  go_enter Try.func91, Try.ntmps91
  go_wp2_with fail
  rw [Ex.2.out.1]
  refine (clone_limbs Ax cx (limbs x.natAbs) w (Nat.le_refl _) limx (by rw [← Ex.2.out.1]; exact Ex.2.out.2) Ex.1.out).mono ?_
  rintro e w1 ⟨A', c', rfl, hc', hlim', hb⟩
  have he : Ext Nix w w1 := (Ext.refl Nix w (fun _ h => h.elim)).later (Ext.of_below hb)
  go_wp2_with fail
  refine (int_put' g z0 _ A' c' (limbs x.natAbs) w1 (hg.ext he (fun h => h)) hlim' hc' Ex.1.out).mono ?_
  rintro e w2 ⟨rfl, hz, he2⟩
  rw [val_limbs] at hz
  go_wp2_with fail
  go_ret
  exact ⟨rfl, hz, he.after he2 hg.num⟩

set_option maxRecDepth 100000 in
theorem int_mul (g gx gy : Nat) (z0 x y : Int) (w : World) (hg : IntAt w g z0) (hx : IntAt w gx x) (hy : IntAt w gy y) (hl : (limbs x.natAbs).length ≤ 274877906944) (hl2 : (limbs y.natAbs).length ≤ 274877906944) :
    Calls Try.prog 75 #[.pointer (some ⟨g, 0, none⟩), .pointer (some ⟨gx, 0, none⟩), .pointer (some ⟨gy, 0, none⟩)] w fun e w' => e = .returned (.pointer (some ⟨g, 0, none⟩)) ∧ IntAt w' g (x * y) ∧ Ext (· = g) w w' := by
  obtain ⟨sx, Ax, lx, cx, Sxx, Lxx, hbx, hcx, limx⟩ := hx.open
  have r0x := Later.sign hbx
  have r1x := Later.size hbx
  have k0x := cell0_int hbx
  have k1x := cell1_int hbx
  have Sx := Lib.hid Sxx
  have Ex := And.intro (Lib.hid hl) (Lib.hid (And.intro Lxx hcx))
  clear hl Sxx Lxx hcx hbx
  obtain ⟨sy, Ay, ly, cy, Sxy, Lxy, hby, hcy, limy⟩ := hy.open
  have r0y := Later.sign hby
  have r1y := Later.size hby
  have k0y := cell0_int hby
  have k1y := cell1_int hby
  have Sy := Lib.hid Sxy
  have Ey := And.intro (Lib.hid hl2) (Lib.hid (And.intro Lxy hcy))
  clear hl2 Sxy Lxy hcy hby
  go_enter Try.func75, Try.ntmps75
  go_wp2_with fail
  refine wp_region_stages (fun w' => ∃ δ : Later Nix w, w' = δ.world) [(false, 0), (false, 1), (false, 2), (false, 3), (false, 4), (false, 5), (false, 6), (false, 7), (false, 8), (false, 9), (false, 10), (false, 11), (false, 12), (false, 13), (false, 14), (false, 15), (false, 16), (false, 17), (true, 18)] 19 [.reads [_, _, _, _, _, _, _, _, _, _, _, _, _, _, _, _, _, _], .loud _] [_, _] (by kernel_rfl) (by kernel_rfl) rfl rfl ?_ ?_
  · exact ⟨⟨_, nix_drawn w⟩, rfl⟩
  refine wpStages_reads ?_
  repeat (go_big_quiet_step (fail))
  refine wpQuiet_nil ?_
  refine wpStages_loud rfl ?_
  intro K hK
  go_big_op
  rw [Ex.2.out.1, Ey.2.out.1]
  refine (big_times Ax Ay cx cy (limbs x.natAbs) (limbs y.natAbs) (w.drewN 1) (Nat.le_refl _) (limx.drewN 1) (limy.drewN 1) (by have := Ex.1.out; have := Ey.1.out; omega)).mono ?_
  rintro e w1 ⟨A', c', rfl, hc', hlim', hb⟩
  have he : Ext Nix w w1 := (nix_drawn w).later (Ext.of_below hb)
  rw [val_limbs, val_limbs] at hc' hlim' ⊢
  refine hK _ _ ⟨⟨w1, he⟩, rfl⟩ ?_
  clear hK K
  refine wpStages_nil ?_
  go_wp2_with fail
  refine (int_put' g z0 _ A' c' (limbs (x.natAbs * y.natAbs)) w1 (hg.ext he (fun h => h)) hlim' hc' (by have h := lc_mul x.natAbs y.natAbs; have := Ex.1.out; have := Ey.1.out; unfold lc at h; omega)).mono ?_
  rintro e w2 ⟨rfl, hz, he2⟩
  rw [val_limbs, Sx.out, Sy.out, signed_mul] at hz
  go_wp2_with fail
  go_ret
  exact ⟨rfl, hz, he.after he2 hg.num⟩

theorem signed_lsh (x : Int) (n : Nat) : signed (decide (x < 0)) (x.natAbs * 2 ^ n) = x * 2 ^ n := by
  have hx := signed_of x
  generalize decide (x < 0) = s at *
  generalize x.natAbs = m at *
  subst hx
  cases s <;> simp [signed, Int.neg_mul]
set_option maxRecDepth 100000 in
theorem int_lsh (g gx n : Nat) (z0 x : Int) (w : World) (hg : IntAt w g z0) (hx : IntAt w gx x) (hl : (limbs x.natAbs).length ≤ 274877906944) (hn : n ≤ 17592186044416) :
    Calls Try.prog 154 #[.pointer (some ⟨g, 0, none⟩), .pointer (some ⟨gx, 0, none⟩), .int .u64 (n : Int)] w fun e w' => e = .returned (.pointer (some ⟨g, 0, none⟩)) ∧ IntAt w' g (x * 2 ^ n) ∧ Ext (· = g) w w' := by
  obtain ⟨sx, Ax, lx, cx, Sxx, Lxx, hbx, hcx, limx⟩ := hx.open
  have r0x := Later.sign hbx
  have r1x := Later.size hbx
  have k0x := cell0_int hbx
  have k1x := cell1_int hbx
  have Sx := Lib.hid Sxx
  have Ex := And.intro (Lib.hid hl) (Lib.hid (And.intro Lxx hcx))
  clear hl Sxx Lxx hcx hbx
  have HN := Lib.hid hn
  clear hn
  go_enter Try.func154, Try.ntmps154
  go_wp2_with fail
  refine wp_region_stages (fun w' => ∃ δ : Later Nix w, w' = δ.world) [(false, 0), (false, 1), (false, 2), (false, 3), (false, 4), (false, 5), (false, 6), (false, 7), (false, 8), (false, 9), (true, 10)] 11 [.reads [_, _, _, _, _, _, _, _, _, _], .loud _] [_, _] (by kernel_rfl) (by kernel_rfl) rfl rfl ?_ ?_
  · exact ⟨⟨_, nix_drawn w⟩, rfl⟩
  refine wpStages_reads ?_
  repeat (go_big_quiet_step (fail))
  refine wpQuiet_nil ?_
  refine wpStages_loud rfl ?_
  intro K hK
  go_big_op
  rw [Ex.2.out.1]
  refine (big_left Ax cx (limbs x.natAbs) n (w.drewN 1) (Nat.le_refl _) (limx.drewN 1) (by have := Ex.1.out; omega) (by have := HN.out; omega)).mono ?_
  rintro e w1 ⟨A', c', rfl, hc', hlim', hb, _⟩
  have he : Ext Nix w w1 := (nix_drawn w).later (Ext.of_below hb)
  rw [val_limbs] at hc' hlim' ⊢
  refine hK _ _ ⟨⟨w1, he⟩, rfl⟩ ?_
  clear hK K
  refine wpStages_nil ?_
  go_wp2_with fail
  refine (int_put' g z0 _ A' c' (limbs (x.natAbs * 2 ^ n)) w1 (hg.ext he (fun h => h)) hlim' hc' (by
    have h1 : lc (x.natAbs * 2 ^ n) ≤ lc x.natAbs + n / 64 + 1 := by
      by_cases h0 : x.natAbs = 0
      · rw [h0, Nat.zero_mul]; unfold lc; rw [limbs_zero]; simp
      · rw [lc_le_nbits, nbits_mul_pow h0]
        have := nbits_le_lc x.natAbs
        omega
    have := Ex.1.out; have := HN.out; unfold lc at h1; omega)).mono ?_
  rintro e w2 ⟨rfl, hz, he2⟩
  rw [val_limbs, Sx.out, signed_lsh] at hz
  go_wp2_with fail
  go_ret
  exact ⟨rfl, hz, he.after he2 hg.num⟩

set_option maxRecDepth 100000 in
theorem int_sqrt (g gx : Nat) (z0 x : Int) (w : World) (hg : IntAt w g z0) (hx : IntAt w gx x) (hl : (limbs x.natAbs).length ≤ 274877906944) :
    Calls Try.prog 72 #[.pointer (some ⟨g, 0, none⟩), .pointer (some ⟨gx, 0, none⟩)] w fun e w' => e = .returned (.pointer (some ⟨g, 0, none⟩)) ∧ IntAt w' g (isqrt x.natAbs : Int) ∧ Ext (· = g) w w' := by
  obtain ⟨sx, Ax, lx, cx, Sxx, Lxx, hbx, hcx, limx⟩ := hx.open
  have r0x := Later.sign hbx
  have r1x := Later.size hbx
  have k0x := cell0_int hbx
  have k1x := cell1_int hbx
  have Sx := Lib.hid Sxx
  have Ex := And.intro (Lib.hid hl) (Lib.hid (And.intro Lxx hcx))
  clear hl Sxx Lxx hcx hbx
  go_enter Try.func72, Try.ntmps72
  go_wp2_with fail
  rw [Ex.2.out.1]
  refine (big_root Ax cx x.natAbs w (Nat.le_refl _) limx Ex.1.out).mono ?_
  rintro e w1 ⟨A', c', rfl, hc', hlim', hb⟩
  have he : Ext Nix w w1 := (Ext.refl Nix w (fun _ h => h.elim)).later (Ext.of_below hb)
  go_wp2_with fail
  refine (int_put' g z0 _ A' c' (limbs (isqrt x.natAbs)) w1 (hg.ext he (fun h => h)) hlim' hc' (by
    have h1 : lc (isqrt x.natAbs) ≤ lc x.natAbs := lc_mono (Nat.le_trans (by rcases Nat.eq_zero_or_pos (isqrt x.natAbs) with h | h; · rw [h]; omega
                                                                             · exact Nat.le_mul_of_pos_left _ h) (isqrt_spec x.natAbs).1)
    have := Ex.1.out; unfold lc at h1; omega)).mono ?_
  rintro e w2 ⟨rfl, hz, he2⟩
  rw [val_limbs] at hz
  go_wp2_with fail
  go_ret
  exact ⟨rfl, hz, he.after he2 hg.num⟩

set_option maxRecDepth 100000 in
theorem int_bitlen (gx : Nat) (x : Int) (w : World) (hx : IntAt w gx x) (hl : (limbs x.natAbs).length ≤ 1099511627776) :
    Calls Try.prog 92 #[.pointer (some ⟨gx, 0, none⟩)] w fun e w' => e = .returned (.int .i64 (nbits x.natAbs : Nat)) ∧ w = w' := by
  obtain ⟨sx, Ax, lx, cx, Sxx, Lxx, hbx, hcx, limx⟩ := hx.open
  have r0x := Later.sign hbx
  have r1x := Later.size hbx
  have k0x := cell0_int hbx
  have k1x := cell1_int hbx
  have Sx := Lib.hid Sxx
  have Ex := And.intro (Lib.hid hl) (Lib.hid (And.intro Lxx hcx))
  clear hl Sxx Lxx hcx hbx
  go_enter Try.func92, Try.ntmps92
  go_wp2_with fail
  rw [Ex.2.out.1]
  refine (big_size Ax cx x.natAbs w limx Ex.1.out).mono ?_
  rintro e w1 ⟨rfl, rfl⟩
  go_wp2_with fail
  go_ret
  exact ⟨rfl, rfl⟩

set_option maxRecDepth 100000 in
theorem int_sign (gx : Nat) (x : Int) (w : World) (hx : IntAt w gx x) (hl : (limbs x.natAbs).length ≤ 1099511627776) :
    Calls Try.prog 105 #[.pointer (some ⟨gx, 0, none⟩)] w fun e w' => e = .returned (.int .i64 x.sign) ∧ w = w' := by
  obtain ⟨sx, Ax, lx, cx, Sxx, Lxx, hbx, hcx, limx⟩ := hx.open
  have r0x := Later.sign hbx
  have r1x := Later.size hbx
  have k0x := cell0_int hbx
  have k1x := cell1_int hbx
  have Sx := Lib.hid Sxx
  have Ex := And.intro (Lib.hid hl) (Lib.hid (And.intro Lxx hcx))
  clear hl Sxx Lxx hcx hbx
  by_cases h0 : x = 0
  · have hl0 : lx = 0 := by rw [Ex.2.out.1, h0]; simp [limbs_zero]
    subst hl0
    have HS := Lib.hid h0
    clear h0
    go_enter Try.func105, Try.ntmps105
    go_wp2_with fail
    go_ret
    exact ⟨by rw [HS.out]; rfl, rfl⟩
  · have t0 : ((lx : Int) == 0) = false := beq_eq_false_iff_ne.2 (by
      have : lx ≠ 0 := fun e => h0 (by
        have h1 := Ex.2.out.1
        rw [e] at h1
        have := limbs_eq_nil.1 (List.eq_nil_of_length_eq_zero h1.symm)
        omega)
      omega)
    by_cases hn : x < 0
    · have hs : sx = true := by rw [Sx.out]; exact decide_eq_true hn
      subst hs
      have HS := Lib.hid hn
      clear h0 hn
      go_enter Try.func105, Try.ntmps105
      go_wp2_with fail
      go_ret
      exact ⟨by rw [Int.sign_eq_neg_one_of_neg HS.out]; rfl, rfl⟩
    · have hs : sx = false := by rw [Sx.out]; exact decide_eq_false hn
      subst hs
      have HS := Lib.hid (show 0 < x by omega)
      clear h0 hn
      go_enter Try.func105, Try.ntmps105
      go_wp2_with fail
      go_ret
      exact ⟨by rw [Int.sign_eq_one_of_pos HS.out]; rfl, rfl⟩

theorem quiet_ext (w : World) (n : Nat) : Ext Nix w (w.drewN n) := (Ext.refl Nix w (fun _ h => h.elim)).drewN n
theorem limbs_add_le (m n : Nat) : (limbs (m + n)).length ≤ max (limbs m).length (limbs n).length + 1 := lc_add m n
theorem limbs_mono {m n : Nat} (h : m ≤ n) : (limbs m).length ≤ (limbs n).length := lc_mono h
set_option maxRecDepth 100000 in
theorem int_add (g gx gy : Nat) (z0 x y : Int) (w : World) (hg : IntAt w g z0) (hx : IntAt w gx x) (hy : IntAt w gy y) (hl : (limbs x.natAbs).length ≤ 549755813888) (hl2 : (limbs y.natAbs).length ≤ 549755813888) :
    Calls Try.prog 63 #[.pointer (some ⟨g, 0, none⟩), .pointer (some ⟨gx, 0, none⟩), .pointer (some ⟨gy, 0, none⟩)] w fun e w' => e = .returned (.pointer (some ⟨g, 0, none⟩)) ∧ IntAt w' g (x + y) ∧ Ext (· = g) w w' := by
  obtain ⟨sx, Ax, lx, cx, Sxx, Lxx, hbx, hcx, limx⟩ := hx.open
  have r0x := Later.sign hbx
  have r1x := Later.size hbx
  have k0x := cell0_int hbx
  have k1x := cell1_int hbx
  have Sx := Lib.hid Sxx
  have Ex := And.intro (Lib.hid hl) (Lib.hid (And.intro Lxx hcx))
  clear hl Sxx Lxx hcx hbx
  obtain ⟨sy, Ay, ly, cy, Sxy, Lxy, hby, hcy, limy⟩ := hy.open
  have r0y := Later.sign hby
  have r1y := Later.size hby
  have k0y := cell0_int hby
  have k1y := cell1_int hby
  have Sy := Lib.hid Sxy
  have Ey := And.intro (Lib.hid hl2) (Lib.hid (And.intro Lxy hcy))
  clear hl2 Sxy Lxy hcy hby
  by_cases hs : sx = sy
  · subst hs
    have hss : (sx == sx) = true := by simp
    have HSS := Lib.hid (show decide (x < 0) = decide (y < 0) by rw [← Sx.out, ← Sy.out])
    go_enter Try.func63, Try.ntmps63
    go_wp2_with fail
    go_quiet (fail)
    go_wp2_with fail
    refine wp_region_stages (fun w' => ∃ δ : Later Nix w, w' = δ.world) [(false, 0), (false, 1), (false, 2), (false, 3), (false, 4), (false, 5), (false, 6), (false, 7), (false, 8), (false, 9), (false, 10), (false, 11), (false, 12), (true, 13)] 14 [.reads [_, _, _, _, _, _, _, _, _, _, _, _, _], .loud _] [_, _] (by kernel_rfl) (by kernel_rfl) rfl rfl ?_ ?_
    · first | exact ⟨⟨_, (quiet_ext w _).drewN 1⟩, rfl⟩ | exact ⟨⟨_, ((quiet_ext w _).drewN _).drewN 1⟩, rfl⟩
    refine wpStages_reads ?_
    repeat (go_big_quiet_step (fail))
    refine wpQuiet_nil ?_
    refine wpStages_loud rfl ?_
    intro K hK
    go_big_op
    rw [Ex.2.out.1, Ey.2.out.1]
    refine (big_plus Ax Ay cx cy (limbs x.natAbs) (limbs y.natAbs) _ (Nat.le_refl _) (limx.drewN _) (limy.drewN _) (by have := Ex.1.out; omega) (by have := Ey.1.out; omega)).mono ?_
    rintro e w1 ⟨A', c', rfl, hc', hlim', hb⟩
    have he : Ext Nix w w1 := (quiet_ext w _).later (Ext.of_below hb)
    rw [val_limbs, val_limbs] at hc' hlim' ⊢
    refine hK _ _ ⟨⟨w1, he⟩, rfl⟩ ?_
    clear hK K
    refine wpStages_nil ?_
    go_wp2_with fail
    refine (int_put' g z0 _ A' c' (limbs (x.natAbs + y.natAbs)) w1 (hg.ext he (fun h => h)) hlim' hc' (by have h := limbs_add_le x.natAbs y.natAbs; have := Ex.1.out; have := Ey.1.out; omega)).mono ?_
    rintro e w2 ⟨rfl, hz, he2⟩
    rw [val_limbs, Sx.out, signed_add x y HSS.out] at hz
    go_wp2_with fail
    go_ret
    exact ⟨rfl, hz, he.after he2 hg.num⟩
  · have hss : (sx == sy) = false := by simpa using hs
    have HSS := Lib.hid (show decide (x < 0) ≠ decide (y < 0) by rw [← Sx.out, ← Sy.out]; exact hs)
    clear hs
    have hcm : ∀ n, Calls Try.prog 115 #[.slice Ax lx cx, .slice Ay ly cy] (w.drewN n) fun e w' => e = .returned (.int .i64 (cmpN x.natAbs y.natAbs)) ∧ ∃ q, w' = (w.drewN n).drewN q := by
      intro n
      rw [Ex.2.out.1, Ey.2.out.1]
      exact big_compare Ax Ay cx cy x.natAbs y.natAbs _ (limx.drewN _) (limy.drewN _) (by have := Ex.1.out; omega) (by have := Ey.1.out; omega)
    have HCM := Lib.hid hcm
    clear hcm
    by_cases hge : y.natAbs ≤ x.natAbs
    · obtain ⟨d, hd⟩ : ∃ d : Bool, cmpN x.natAbs y.natAbs = (if d then 1 else 0) := by
        rcases Nat.lt_or_eq_of_le hge with h | h
        · exact ⟨true, cmpN_gt h⟩
        · exact ⟨false, cmpN_eq h.symm⟩
      rw [hd] at HCM
      have HGE := Lib.hid hge
      clear hge hd
      go_enter Try.func63, Try.ntmps63
      go_wp2_with fail
      go_quiet (fail)
      go_wp2_with fail
      go_quiet ((go_at_call 115; exact quiet_add (HCM.out _)))
      cases d
      all_goals
        go_wp2_with fail
        refine wp_region_stages (fun w' => ∃ δ : Later Nix w, w' = δ.world) [(false, 0), (false, 1), (false, 2), (false, 3), (false, 4), (false, 5), (false, 6), (false, 7), (false, 8), (false, 9), (false, 10), (false, 11), (false, 12), (true, 13)] 14 [.reads [_, _, _, _, _, _, _, _, _, _, _, _, _], .loud _] [_, _] (by kernel_rfl) (by kernel_rfl) rfl rfl ?_ ?_
        · first | exact ⟨⟨_, (quiet_ext w _).drewN 1⟩, rfl⟩ | exact ⟨⟨_, ((quiet_ext w _).drewN _).drewN 1⟩, rfl⟩
        refine wpStages_reads ?_
        repeat (go_big_quiet_step (fail))
        refine wpQuiet_nil ?_
        refine wpStages_loud rfl ?_
        intro K hK
        go_big_op
        rw [Ex.2.out.1, Ey.2.out.1]
        refine (big_less Ax Ay cx cy (limbs x.natAbs) (limbs y.natAbs) _ (Nat.le_refl _) (limx.drewN _) (limy.drewN _) (by have := Ex.1.out; omega) (limbs_mono HGE.out) (by rw [val_limbs, val_limbs]; exact HGE.out)).mono ?_
        rintro e w1 ⟨A', c', rfl, hc', hlim', hb⟩
        have he : Ext Nix w w1 := (quiet_ext w _).later (Ext.of_below hb)
        rw [val_limbs, val_limbs] at hc' hlim' ⊢
        refine hK _ _ ⟨⟨w1, he⟩, rfl⟩ ?_
        clear hK K
        refine wpStages_nil ?_
        go_wp2_with fail
        refine (int_put' g z0 _ A' c' (limbs (x.natAbs - y.natAbs)) w1 (hg.ext he (fun h => h)) hlim' hc' (by have h := limbs_mono (Nat.sub_le x.natAbs y.natAbs); have := Ex.1.out; omega)).mono ?_
        rintro e w2 ⟨rfl, hz, he2⟩
        rw [val_limbs, Sx.out, signed_sub x y HSS.out HGE.out] at hz
        go_wp2_with fail
        go_ret
        exact ⟨rfl, hz, he.after he2 hg.num⟩
    · rw [cmpN_lt (Nat.lt_of_not_le hge)] at HCM
      have HGE := Lib.hid (Nat.le_of_lt (Nat.lt_of_not_le hge))
      clear hge
      go_enter Try.func63, Try.ntmps63
      go_wp2_with fail
      go_quiet (fail)
      go_wp2_with fail
      go_quiet ((go_at_call 115; exact quiet_add (HCM.out _)))
      go_wp2_with fail
      refine wp_region_stages (fun w' => ∃ δ : Later Nix w, w' = δ.world) [(false, 0), (false, 1), (false, 2), (false, 3), (false, 4), (false, 5), (false, 6), (false, 7), (false, 8), (false, 9), (false, 10), (false, 11), (false, 12), (true, 13)] 14 [.reads [_, _, _, _, _, _, _, _, _, _, _, _, _], .loud _] [_, _] (by kernel_rfl) (by kernel_rfl) rfl rfl ?_ ?_
      · first | exact ⟨⟨_, (quiet_ext w _).drewN 1⟩, rfl⟩ | exact ⟨⟨_, ((quiet_ext w _).drewN _).drewN 1⟩, rfl⟩
      refine wpStages_reads ?_
      repeat (go_big_quiet_step (fail))
      refine wpQuiet_nil ?_
      refine wpStages_loud rfl ?_
      intro K hK
      go_big_op
      rw [Ex.2.out.1, Ey.2.out.1]
      refine (big_less Ay Ax cy cx (limbs y.natAbs) (limbs x.natAbs) _ (Nat.le_refl _) (limy.drewN _) (limx.drewN _) (by have := Ey.1.out; omega) (limbs_mono HGE.out) (by rw [val_limbs, val_limbs]; exact HGE.out)).mono ?_
      rintro e w1 ⟨A', c', rfl, hc', hlim', hb⟩
      have he : Ext Nix w w1 := (quiet_ext w _).later (Ext.of_below hb)
      rw [val_limbs, val_limbs] at hc' hlim' ⊢
      refine hK _ _ ⟨⟨w1, he⟩, rfl⟩ ?_
      clear hK K
      refine wpStages_nil ?_
      go_wp2_with fail
      refine (int_put' g z0 _ A' c' (limbs (y.natAbs - x.natAbs)) w1 (hg.ext he (fun h => h)) hlim' hc' (by have h := limbs_mono (Nat.sub_le y.natAbs x.natAbs); have := Ey.1.out; omega)).mono ?_
      rintro e w2 ⟨rfl, hz, he2⟩
      rw [val_limbs, Sy.out, signed_sub y x (Ne.symm HSS.out) HGE.out, Int.add_comm] at hz
      go_wp2_with fail
      go_ret
      exact ⟨rfl, hz, he.after he2 hg.num⟩
end Go.Proofs.Ytmnfokapdipcdaa
/- More methods of whole numbers. -/
namespace Go.Proofs.Ytmnfokapdipcdaa
open Go.RowKit Go.Deep
theorem Ext.alloc (w : World) (o : Obj) : Ext Nix w (w.alloc o) := Ext.of_below ((Below.refl _ w).alloc (Nat.le_refl _) o)
theorem Ext.hidden {g : Nat} {w wa w1 : World} (h : Ext Nix w wa) (k : Ext (· = g) wa w1) (hg : w.heap.size ≤ g) : Ext Nix w w1 :=
  Ext.of_below ((h.trans k).fresh fun i hi => hi.elim (fun h => h.elim) (fun h => by omega))

set_option maxRecDepth 100000 in
theorem int_sub (g gx gy : Nat) (z0 x y : Int) (w : World) (hg : IntAt w g z0) (hx : IntAt w gx x) (hy : IntAt w gy y) (hl : (limbs x.natAbs).length ≤ 549755813888) (hl2 : (limbs y.natAbs).length ≤ 549755813888) :
    Calls Try.prog 74 #[.pointer (some ⟨g, 0, none⟩), .pointer (some ⟨gx, 0, none⟩), .pointer (some ⟨gy, 0, none⟩)] w fun e w' => e = .returned (.pointer (some ⟨g, 0, none⟩)) ∧ IntAt w' g (x - y) ∧ Ext (· = g) w w' := by
  have HL := Lib.hid hl
  have HL2 := Lib.hid hl2
  clear hl hl2
  go_enter Try.func74, Try.ntmps74
  go_wp2_with fail
  have ha := Ext.alloc w (.cells #[.bool false, .slice none 0 0] 84)
  refine (int_neg w.heap.size gy 0 y _ (IntAt.fresh w) (hy.ext ha (fun h => h)) (by have := HL2.out; omega)).mono ?_
  rintro e w1 ⟨rfl, hn, he1⟩
  have he := ha.hidden he1 (Nat.le_refl _)
  go_wp2_with fail
  refine (int_add g gx w.heap.size z0 x (-y) w1 (hg.ext he (fun h => h)) (hx.ext he (fun h => h)) hn HL.out (by rw [Int.natAbs_neg]; exact HL2.out)).mono ?_
  rintro e w2 ⟨rfl, hz, he2⟩
  go_wp2_with fail
  go_ret
  exact ⟨rfl, by rw [Int.sub_eq_add_neg]; exact hz, he.after he2 hg.num⟩

theorem wrap_minus {k : Nat} (h1 : 0 < k) (h2 : k ≤ 9223372036854775808) : ∃ r : Nat, IntKind.u64.wrap (-(k : Int)) = (r : Int) ∧ IntKind.u64.wrap (-(r : Int)) = (k : Int) :=
  ⟨18446744073709551616 - k, by rw [IntKind.wrap_u64]; omega, by rw [IntKind.wrap_u64]; omega⟩
theorem wrap_plus {k : Nat} (h2 : k < 9223372036854775808) : IntKind.u64.wrap (k : Int) = (k : Int) := by rw [IntKind.wrap_u64]; omega
/-- One limb, new. -/
theorem Lim.one {w : World} {k : Nat} (hk : k < W64) : Lim (w.alloc (.cells #[.int .u64 (k : Int)] 33)) (w.heap.size + 1) (some ⟨w.heap.size, 0, none⟩) [k] :=
  ⟨Small.one hk, fun _ => ⟨_, rfl, by simp, fun j hj => by
    have e : j = 0 := by simpa using hj
    subst e
    rw [add_plain, cell_of_row _ _ _ _ _ (0, 0) (heap_alloc_new w _)]; rfl⟩⟩
set_option maxRecDepth 100000 in
theorem int_setInt64 (g : Nat) (n : Int) (z0 : Int) (w : World) (hg : IntAt w g z0) (h1 : -9223372036854775808 ≤ n) (h2 : n < 9223372036854775808) :
    Calls Try.prog 120 #[.pointer (some ⟨g, 0, none⟩), .int .i64 n] w fun e w' => e = .returned (.pointer (some ⟨g, 0, none⟩)) ∧ IntAt w' g n ∧ Ext (· = g) w w' := by
  by_cases hn : n < 0
  · obtain ⟨k, hk⟩ : ∃ k : Nat, n = -(k : Int) := ⟨n.natAbs, by omega⟩
    have HK := Lib.hid hk
    obtain ⟨r, e1, e2⟩ := wrap_minus (k := k) (by omega) (by omega)
    rw [← hk] at e1
    have HW := Lib.hid (show k < W64 by rw [W64_eq]; omega)
    have tn : (decide (n < 0)) = true := decide_eq_true hn
    have HN := Lib.hid hn
    clear hk h1 h2
    go_enter Try.func120, Try.ntmps120
    go_wp2_with fail
    have ha := Ext.alloc w (.cells #[.int .u64 (k : Int)] 33)
    refine (int_put' g z0 true _ 1 [k] _ (hg.ext ha (fun h => h)) ((Lim.one HW.out).more (by simp)) (by simp) (by simp)).mono ?_
    rintro e w2 ⟨rfl, hz, he2⟩
    go_wp2_with fail
    go_ret
    exact ⟨rfl, by rw [HK.out]; simpa [signed] using hz, ha.after he2 hg.num⟩
  · obtain ⟨k, hk⟩ : ∃ k : Nat, n = (k : Int) := ⟨n.natAbs, by omega⟩
    subst hk
    have e1 := wrap_plus (k := k) (by omega)
    have HW := Lib.hid (show k < W64 by rw [W64_eq]; omega)
    have tn : (decide ((k : Int) < 0)) = false := decide_eq_false hn
    clear h1 h2 hn
    go_enter Try.func120, Try.ntmps120
    go_wp2_with fail
    have ha := Ext.alloc w (.cells #[.int .u64 (k : Int)] 33)
    refine (int_put' g z0 false _ 1 [k] _ (hg.ext ha (fun h => h)) ((Lim.one HW.out).more (by simp)) (by simp) (by simp)).mono ?_
    rintro e w2 ⟨rfl, hz, he2⟩
    go_wp2_with fail
    go_ret
    exact ⟨rfl, by simpa [signed] using hz, ha.after he2 hg.num⟩

set_option maxRecDepth 100000 in
theorem big_newInt (n : Int) (w : World) (h1 : -9223372036854775808 ≤ n) (h2 : n < 9223372036854775808) :
    Calls Try.prog 66 #[.int .i64 n] w fun e w' => e = .returned (.pointer (some ⟨w.heap.size, 0, none⟩)) ∧ IntAt w' w.heap.size n ∧ Ext Nix w w' := by
  have H1 := Lib.hid h1
  have H2 := Lib.hid h2
  clear h1 h2
  go_enter Try.func66, Try.ntmps66
  go_wp2_with fail
  have ha := Ext.alloc w (.cells #[.bool false, .slice none 0 0] 84)
  refine (int_setInt64 w.heap.size n 0 _ (IntAt.fresh w) H1.out H2.out).mono ?_
  rintro e w1 ⟨rfl, hz, he1⟩
  go_wp2_with fail
  go_ret
  exact ⟨rfl, hz, ha.hidden he1 (Nat.le_refl _)⟩
theorem signed_quo (x y : Int) : signed (!(decide (x < 0) == decide (y < 0))) (x.natAbs / y.natAbs) = x.tdiv y := by
  have hx := signed_of x
  have hy := signed_of y
  generalize decide (x < 0) = s at *
  generalize decide (y < 0) = t at *
  generalize x.natAbs = m at *
  generalize y.natAbs = n at *
  subst hx; subst hy
  cases s <;> cases t <;> simp [signed, Int.neg_tdiv, Int.tdiv_neg]
theorem signed_rem (x y : Int) : signed (decide (x < 0)) (x.natAbs % y.natAbs) = x.tmod y := by
  have hx := signed_of x
  have hy := signed_of y
  generalize decide (x < 0) = s at *
  generalize decide (y < 0) = t at *
  generalize x.natAbs = m at *
  generalize y.natAbs = n at *
  subst hx; subst hy
  cases s <;> cases t <;> simp [signed, Int.neg_tmod, Int.tmod_neg, Int.tmod_eq_emod_of_nonneg]
theorem Ext.either {g h : Nat} {w w1 w2 w3 : World} (e0 : Ext Nix w w1) (e1 : Ext (· = g) w1 w2) (e2 : Ext (· = h) w2 w3) (hg : NoNum w g) (hh : NoNum w h) : Ext (fun i => i = g ∨ i = h) w w3 :=
  ((e0.trans e1).trans e2).mono (fun i _ hi => hi.elim (fun hi => hi.elim (fun h => h.elim) .inl) .inr) (fun i hi _ => by rcases hi with rfl | rfl <;> assumption)
set_option maxRecDepth 100000 in
theorem int_quoRem (g gx gy gr : Nat) (z0 x y r0 : Int) (w : World) (hg : IntAt w g z0) (hx : IntAt w gx x) (hy : IntAt w gy y) (hr : IntAt w gr r0) (hne : gr ≠ g) (h0 : y ≠ 0) (hl : (limbs x.natAbs).length ≤ 549755813888) (hl2 : (limbs y.natAbs).length ≤ 549755813888) :
    Calls Try.prog 119 #[.pointer (some ⟨g, 0, none⟩), .pointer (some ⟨gx, 0, none⟩), .pointer (some ⟨gy, 0, none⟩), .pointer (some ⟨gr, 0, none⟩)] w fun e w' => e = .returned (.tuple #[.pointer (some ⟨g, 0, none⟩), .pointer (some ⟨gr, 0, none⟩)]) ∧ IntAt w' g (x.tdiv y) ∧ IntAt w' gr (x.tmod y) ∧ Ext (fun i => i = g ∨ i = gr) w w' := by
  obtain ⟨sx, Ax, lx, cx, Sxx, Lxx, hbx, hcx, limx⟩ := hx.open
  have r0x := Later.sign hbx
  have r1x := Later.size hbx
  have k0x := cell0_int hbx
  have k1x := cell1_int hbx
  have Sx := Lib.hid Sxx
  have Ex := And.intro (Lib.hid hl) (Lib.hid (And.intro Lxx hcx))
  clear hl Sxx Lxx hcx hbx
  obtain ⟨sy, Ay, ly, cy, Sxy, Lxy, hby, hcy, limy⟩ := hy.open
  have r0y := Later.sign hby
  have r1y := Later.size hby
  have k0y := cell0_int hby
  have k1y := cell1_int hby
  have Sy := Lib.hid Sxy
  have Ey := And.intro (Lib.hid hl2) (Lib.hid (And.intro Lxy hcy))
  clear hl2 Sxy Lxy hcy hby
  have HNE := Lib.hid hne
  have H0 := Lib.hid h0
  clear hne h0
  go_enter Try.func119, Try.ntmps119
  go_wp2_with fail
  refine wp_region_stages (fun w' => ∃ δ : Later Nix w, w' = δ.world) [(false, 0), (false, 1), (false, 2), (false, 3), (false, 4), (false, 5), (false, 6), (false, 7), (true, 8), (false, 9), (false, 10), (false, 11), (false, 12)] 13 [.reads [_, _, _, _, _, _, _, _], .loud _, .reads [_, _, _, _]] [_] (by kernel_rfl) (by kernel_rfl) rfl rfl ?_ ?_
  · exact ⟨⟨_, nix_drawn w⟩, rfl⟩
  refine wpStages_reads ?_
  repeat (go_big_quiet_step (fail))
  refine wpQuiet_nil ?_
  refine wpStages_loud rfl ?_
  intro K hK
  go_big_op
  rw [Ex.2.out.1, Ey.2.out.1]
  refine (big_over Ax Ay cx cy x.natAbs y.natAbs (w.drewN 1) (Nat.le_refl _) (limx.drewN 1) (limy.drewN 1) Ex.1.out Ey.1.out (by have := H0.out; omega)).mono ?_
  rintro e w1 ⟨Aq, cq, Ar, cr, rfl, hcq, hcr, hlimq, hlimr, hb⟩
  have he : Ext Nix w w1 := (nix_drawn w).later (Ext.of_below hb)
  refine hK _ _ ⟨⟨w1, he⟩, rfl⟩ ?_
  clear hK K
  refine wpStages_reads ?_
  repeat (go_big_quiet_step (fail))
  refine wpQuiet_nil ?_
  refine wpStages_nil ?_
  have k0x1 : w1.cell? ⟨gx, 0, none⟩ = some (.bool sx) := r0x ⟨w1, he⟩
  have k0y1 : w1.cell? ⟨gy, 0, none⟩ = some (.bool sy) := r0y ⟨w1, he⟩
  clear r0x r1x r0y r1y k0x k1x k0y k1y
  go_wp2_with fail
  go_quiet (fail)
  go_wp2_with fail
  have heq := he.drewN nq
  refine (int_put' g z0 _ Aq cq (limbs (x.natAbs / y.natAbs)) _ (hg.ext heq (fun h => h)) (hlimq.drewN _) hcq (by have h := limbs_mono (Nat.div_le_self x.natAbs y.natAbs); have := Ex.1.out; omega)).mono ?_
  rintro e w2 ⟨rfl, hz, he2⟩
  rw [val_limbs, Sx.out, Sy.out, signed_quo] at hz
  go_wp2_with fail
  refine (int_put' gr r0 _ Ar cr (limbs (x.natAbs % y.natAbs)) _ ((hr.ext heq (fun h => h)).ext he2 HNE.out) (((hlimr.drewN _).ext (Nat.le_refl _) he2).more he2.size) hcr (by have h := limbs_mono (Nat.mod_le x.natAbs y.natAbs); have := Ex.1.out; omega)).mono ?_
  rintro e w3 ⟨rfl, hz3, he3⟩
  rw [val_limbs, Sx.out, signed_rem] at hz3
  go_wp2_with fail
  go_ret2
  exact ⟨rfl, hz.ext he3 (fun h => HNE.out h.symm), hz3, heq.either he2 he3 hg.num hr.num⟩

set_option maxRecDepth 100000 in
theorem int_quo (g gx gy : Nat) (z0 x y : Int) (w : World) (hg : IntAt w g z0) (hx : IntAt w gx x) (hy : IntAt w gy y) (h0 : y ≠ 0) (hl : (limbs x.natAbs).length ≤ 549755813888) (hl2 : (limbs y.natAbs).length ≤ 549755813888) :
    Calls Try.prog 65 #[.pointer (some ⟨g, 0, none⟩), .pointer (some ⟨gx, 0, none⟩), .pointer (some ⟨gy, 0, none⟩)] w fun e w' => e = .returned (.pointer (some ⟨g, 0, none⟩)) ∧ IntAt w' g (x.tdiv y) ∧ Ext (· = g) w w' := by
  have HL := Lib.hid hl
  have HL2 := Lib.hid hl2
  have H0 := Lib.hid h0
  clear hl hl2 h0
  go_enter Try.func65, Try.ntmps65
  go_wp2_with fail
  have ha := Ext.alloc w (.cells #[.bool false, .slice none 0 0] 84)
  refine (int_quoRem g gx gy w.heap.size z0 x y 0 _ (hg.ext ha (fun h => h)) (hx.ext ha (fun h => h)) (hy.ext ha (fun h => h)) (IntAt.fresh w) (by have := hg.lt; omega) H0.out HL.out HL2.out).mono ?_
  rintro e w1 ⟨rfl, hq, _, he1⟩
  go_wp2_with fail
  go_ret
  exact ⟨rfl, hq, (ha.trans he1).mono (fun i hi h => h.elim (fun h => h.elim) (fun h => h.elim id (fun h => by omega))) (fun i hi _ => by subst hi; exact hg.num)⟩

theorem drawn_one {w : World} {a : Nat} : ∃ q, w.drewN a = w.drewN q := ⟨_, rfl⟩
theorem drawn_two {w : World} {a b : Nat} : ∃ q, (w.drewN a).drewN b = w.drewN q := ⟨a + b, World.drewN_drewN _ _ _⟩
/-- Which is less, of whole numbers. -/
def cmpZ (x y : Int) : Int := if x < y then -1 else if y < x then 1 else 0
theorem cmpZ_pos {m n : Nat} {x y : Int} (hx : x = m) (hy : y = n) : cmpZ x y = cmpN m n := by
  subst hx; subst hy
  unfold cmpZ cmpN
  simp
theorem cmpZ_neg {m n : Nat} {x y : Int} (hx : x = -(m : Int)) (hy : y = -(n : Int)) : cmpZ x y = cmpN n m := by
  subst hx; subst hy
  unfold cmpZ cmpN
  simp
set_option maxRecDepth 100000 in
theorem int_cmp (gx gy : Nat) (x y : Int) (w : World) (hx : IntAt w gx x) (hy : IntAt w gy y) (hl : (limbs x.natAbs).length ≤ 1099511627776) (hl2 : (limbs y.natAbs).length ≤ 1099511627776) :
    Calls Try.prog 83 #[.pointer (some ⟨gx, 0, none⟩), .pointer (some ⟨gy, 0, none⟩)] w fun e w' => e = .returned (.int .i64 (cmpZ x y)) ∧ ∃ q, w' = w.drewN q := by
  obtain ⟨sx, Ax, lx, cx, Sxx, Lxx, hbx, hcx, limx⟩ := hx.open
  have r0x := Later.sign hbx
  have r1x := Later.size hbx
  have k0x := cell0_int hbx
  have k1x := cell1_int hbx
  have Sx := Lib.hid Sxx
  have Ex := And.intro (Lib.hid hl) (Lib.hid (And.intro Lxx hcx))
  clear hl Sxx Lxx hcx hbx
  obtain ⟨sy, Ay, ly, cy, Sxy, Lxy, hby, hcy, limy⟩ := hy.open
  have r0y := Later.sign hby
  have r1y := Later.size hby
  have k0y := cell0_int hby
  have k1y := cell1_int hby
  have Sy := Lib.hid Sxy
  have Ey := And.intro (Lib.hid hl2) (Lib.hid (And.intro Lxy hcy))
  clear hl2 Sxy Lxy hcy hby
  clear r0x r1x r0y r1y
  have hcm : ∀ n, Calls Try.prog 115 #[.slice Ax lx cx, .slice Ay ly cy] (w.drewN n) fun e w' => e = .returned (.int .i64 (cmpN x.natAbs y.natAbs)) ∧ ∃ q, w' = (w.drewN n).drewN q := by
    intro n
    rw [Ex.2.out.1, Ey.2.out.1]
    exact big_compare Ax Ay cx cy x.natAbs y.natAbs _ (limx.drewN _) (limy.drewN _) (by have := Ex.1.out; omega) (by have := Ey.1.out; omega)
  have hcm2 : ∀ n, Calls Try.prog 115 #[.slice Ay ly cy, .slice Ax lx cx] (w.drewN n) fun e w' => e = .returned (.int .i64 (cmpN y.natAbs x.natAbs)) ∧ ∃ q, w' = (w.drewN n).drewN q := by
    intro n
    rw [Ex.2.out.1, Ey.2.out.1]
    exact big_compare Ay Ax cy cx y.natAbs x.natAbs _ (limy.drewN _) (limx.drewN _) (by have := Ey.1.out; omega) (by have := Ex.1.out; omega)
  have HCM := Lib.hid hcm
  have HCM2 := Lib.hid hcm2
  clear hcm hcm2
  cases sx <;> cases sy
  · have HS := Lib.hid (show x = (x.natAbs : Int) ∧ y = (y.natAbs : Int) by
      have h1 := of_decide_eq_false Sx.out.symm
      have h2 := of_decide_eq_false Sy.out.symm
      omega)
    go_enter Try.func83, Try.ntmps83
    go_wp2_with fail
    go_quiet (fail)
    go_wp2_with fail
    go_quiet (fail)
    go_wp2_with fail
    go_quiet ((go_at_call 115; exact quiet_add (HCM.out _)))
    go_wp2_with fail
    go_ret
    exact ⟨by rw [cmpZ_pos HS.out.1 HS.out.2]; rfl, drawn_two⟩
  · have HS := Lib.hid (show y < x by
      have h1 := of_decide_eq_false Sx.out.symm
      have h2 := of_decide_eq_true Sy.out.symm
      omega)
    go_enter Try.func83, Try.ntmps83
    go_wp2_with fail
    go_quiet (fail)
    go_wp2_with fail
    go_quiet (fail)
    go_wp2_with fail
    go_ret
    exact ⟨by rw [cmpZ, if_neg (by have := HS.out; omega), if_pos HS.out]; rfl, drawn_two⟩
  · have HS := Lib.hid (show x < y by
      have h1 := of_decide_eq_true Sx.out.symm
      have h2 := of_decide_eq_false Sy.out.symm
      omega)
    go_enter Try.func83, Try.ntmps83
    go_wp2_with fail
    go_quiet (fail)
    go_wp2_with fail
    go_ret
    exact ⟨by rw [cmpZ, if_pos HS.out]; rfl, drawn_one⟩
  · have HS := Lib.hid (show x = -(x.natAbs : Int) ∧ y = -(y.natAbs : Int) by
      have h1 := of_decide_eq_true Sx.out.symm
      have h2 := of_decide_eq_true Sy.out.symm
      omega)
    go_enter Try.func83, Try.ntmps83
    go_wp2_with fail
    go_quiet (fail)
    go_wp2_with fail
    go_quiet (fail)
    go_wp2_with fail
    go_quiet ((go_at_call 115; exact quiet_add (HCM2.out _)))
    go_wp2_with fail
    go_ret
    exact ⟨by rw [cmpZ_neg HS.out.1 HS.out.2]; rfl, drawn_two⟩
end Go.Proofs.Ytmnfokapdipcdaa
/- Whole numbers by limbs: Bits, SetBits. -/
namespace Go.Proofs.Ytmnfokapdipcdaa
open Go.RowKit Go.Deep
theorem take_copy {os xs : List Nat} {k : Nat} (hl : os.length = xs.length) (hk : k < xs.length) (h : os.take k = xs.take k) : (os.set k (xs.getD k 0)).take (k + 1) = xs.take (k + 1) := by
  apply List.ext_getElem?
  intro j
  have h1 := congrArg (fun l => l[j]?) h
  simp only [List.getElem?_take] at h1 ⊢
  by_cases hj : j < k
  · rw [if_pos hj, if_pos hj] at h1
    rw [if_pos (by omega), if_pos (by omega), List.getElem?_set_ne (by omega)]
    exact h1
  · by_cases he : j = k
    · subst he
      rw [if_pos (by omega), if_pos (by omega), List.getElem?_set_self (by omega)]
      simp [hk]
    · rw [if_neg (by omega), if_neg (by omega)]

set_option maxRecDepth 100000 in
theorem int_setBits (g : Nat) (z0 : Int) (A : Option Addr) (c : Nat) (xs : List Nat) (w : World) (hg : IntAt w g z0) (h1 : Lim w w.heap.size A xs) (hl : xs.length ≤ 1099511627776) :
    Calls Try.prog 108 #[.pointer (some ⟨g, 0, none⟩), .slice A xs.length c] w fun e w' => e = .returned (.pointer (some ⟨g, 0, none⟩)) ∧ IntAt w' g (val xs : Nat) ∧ Ext (· = g) w w' := by
  have HL := Lib.hid hl
  have hmk := make_limbs xs.length (by omega)
  have hlI : (xs.length : Int) ≤ 1099511627776 := by omega
  clear hl
  go_enter Try.func108, Try.ntmps108
  go_wp2_with fail
  go_loopw [13] (fun t13 wr => ∃ (k : Nat) (os : List Nat), k ≤ xs.length ∧ t13 = .int .i64 (k : Int) ∧ os.length = xs.length ∧ os.take k = xs.take k ∧ Row wr w.heap.size os ∧ Below w.heap.size w wr) (fun t13 _ => xs.length - (intOf t13).toNat)
  case atStart =>
    exact ⟨0, List.replicate xs.length 0, by omega, rfl, by simp, by simp, Row.made _ _, (Below.refl _ _).alloc (Nat.le_refl _) _⟩
  case round =>
    obtain ⟨k, os, hk, rfl, ho, htk, hrow, hbel⟩ := hrel
    have HT := Lib.hid htk
    have HO := Lib.hid ho
    clear htk ho
    by_cases hlt : k < xs.length
    · obtain ⟨ad, rfl, hb, hcell⟩ := (h1.below hbel).at_ hlt
      have HS := Lib.hid (take_copy HO.out hlt HT.out)
      obtain ⟨x, hx⟩ : ∃ x, xs.getD k 0 = x := ⟨_, rfl⟩
      have hxs : x < W64 := hx ▸ h1.small.getD k
      rw [hx] at hcell HS
      have hcg := hrow.cell (k := k) (by rw [HO.out]; omega)
      have hfg := hrow.free k
      have hset := hrow.set (k := k) (x := x) (by rw [HO.out]; omega) hxs
      have hbel' := hbel.setCell (p := ⟨w.heap.size, k, none⟩) (Nat.le_refl _) (.int .u64 (x : Int))
      have HLn := Lib.hid (show (os.set k x).length = xs.length by rw [List.length_set, HO.out])
      clear hx hxs
      go_wp2_with fail
      exact ⟨⟨k + 1, os.set k x, by omega, by go_num, HLn.out, HS.out, hset, hbel'⟩, by simp [intOf]; omega⟩
    · obtain rfl : k = xs.length := by omega
      have hos : os = xs := by
        have h2 := HT.out
        rw [List.take_length] at h2
        rwa [List.take_of_length_le (by rw [HO.out]; omega)] at h2
      subst hos
      have he : Ext Nix w wr := Ext.of_below hbel
      go_wp2_with fail
      refine (int_put' g z0 false _ os.length os wr (hg.ext he (fun h => h)) (hrow.lim hrow.lt) (Nat.le_refl _) HL.out).mono ?_
      rintro e w2 ⟨rfl, hz, he2⟩
      go_wp2_with fail
      go_ret
      exact ⟨rfl, hz, he.after he2 hg.num⟩

theorem info_word : (Try.prog.info? 111).map (fun i => (i.zero, i.size, i.bytes)) = some (some (.int .u64 0), 1, 8) := by kernel_rfl
theorem make_words (n : Nat) (h : n ≤ 35184372088832) : ∀ W : World, (Instr.makeSlice 109 (.int .i64 (n : Int)) (.int .i64 (n : Int))).run Try.prog W = .ok (.slice (some ⟨W.heap.size, 0, none⟩) n n) (W.alloc (.cells (madeCells #[.int .u64 0] n) 111)) :=
  fun W => run_make_row' (P := Try.prog) 109 111 (.int .u64 0) 8 Try.underlying109 info_word rfl .i64 .i64 n (by omega) (by omega) W
set_option maxRecDepth 100000 in
theorem int_bits (gx : Nat) (x : Int) (w : World) (hx : IntAt w gx x) (hl : (limbs x.natAbs).length ≤ 1099511627776) :
    Calls Try.prog 106 #[.pointer (some ⟨gx, 0, none⟩)] w fun e w' => ∃ A, e = .returned (.slice A (limbs x.natAbs).length (limbs x.natAbs).length) ∧ Lim w' w'.heap.size A (limbs x.natAbs) ∧ Below w.heap.size w w' := by
  have hxi := hx
  obtain ⟨sx, Ax, lx, cx, Sxx, Lxx, hbx, hcx, limx⟩ := hx.open
  have r0x := Later.sign hbx
  have r1x := Later.size hbx
  have k0x := cell0_int hbx
  have k1x := cell1_int hbx
  have Sx := Lib.hid Sxx
  have Ex := And.intro (Lib.hid hl) (Lib.hid (And.intro Lxx hcx))
  clear hl Sxx Lxx hcx hbx
  obtain ⟨xs, hxs0⟩ : ∃ xs, limbs x.natAbs = xs := ⟨_, rfl⟩
  rw [hxs0] at limx Ex ⊢
  have HXS := Lib.hid hxs0
  have h1 := limx
  clear hxs0 r0x k0x
  have hlen : lx = xs.length := Ex.2.out.1
  subst hlen
  have k1 : ∀ wr, Below w.heap.size w wr → wr.cell? ⟨gx, 1, none⟩ = some (.slice Ax xs.length cx) := fun wr h => r1x ⟨wr, Ext.of_below h⟩
  have K1 := Lib.hid k1
  clear r1x k1
  have hmk := make_words xs.length (by have := Ex.1.out; omega)
  have hlI : (xs.length : Int) ≤ 1099511627776 := by have := Ex.1.out; omega
  have ka := K1.out _ ((Below.refl _ w).alloc (Nat.le_refl _) (.cells (madeCells #[.int .u64 0] xs.length) 111))
  go_enter Try.func106, Try.ntmps106
  go_wp2_with fail
  go_loopw [17] (fun t17 wr => ∃ (k : Nat) (os : List Nat), k ≤ xs.length ∧ t17 = .int .i64 (k : Int) ∧ os.length = xs.length ∧ os.take k = xs.take k ∧ Row wr w.heap.size os ∧ Below w.heap.size w wr) (fun t17 _ => xs.length - (intOf t17).toNat)
  case atStart =>
    exact ⟨0, List.replicate xs.length 0, by omega, rfl, by simp, by simp, Row.made _ _, (Below.refl _ _).alloc (Nat.le_refl _) _⟩
  case round =>
    obtain ⟨k, os, hk, rfl, ho, htk, hrow, hbel⟩ := hrel
    have HT := Lib.hid htk
    have HO := Lib.hid ho
    clear htk ho
    by_cases hlt : k < xs.length
    · obtain ⟨ad, rfl, hb, hcell⟩ := (h1.below hbel).at_ hlt
      have HS := Lib.hid (take_copy HO.out hlt HT.out)
      obtain ⟨x, hx⟩ : ∃ x, xs.getD k 0 = x := ⟨_, rfl⟩
      have hxs : x < W64 := hx ▸ h1.small.getD k
      rw [hx] at hcell HS
      have hcg := hrow.cell (k := k) (by rw [HO.out]; omega)
      have hfg := hrow.free k
      have hset := hrow.set (k := k) (x := x) (by rw [HO.out]; omega) hxs
      have hbel' := hbel.setCell (p := ⟨w.heap.size, k, none⟩) (Nat.le_refl _) (.int .u64 (x : Int))
      have HLn := Lib.hid (show (os.set k x).length = xs.length by rw [List.length_set, HO.out])
      clear hx hxs
      go_wp2_with fail
      exact ⟨⟨k + 1, os.set k x, by omega, by go_num, HLn.out, HS.out, hset, hbel'⟩, by simp [intOf]; omega⟩
    · obtain rfl : k = xs.length := by omega
      have hos : os = xs := by
        have h2 := HT.out
        rw [List.take_length] at h2
        rwa [List.take_of_length_le (by rw [HO.out]; omega)] at h2
      subst hos
      go_wp2_with fail
      go_ret
      exact ⟨_, rfl, hrow.lim hrow.lt, hbel⟩
theorem later_cell {w : World} {p : Addr} {v : Value} (h : w.cell? p = some v) (δ : Later Nix w) : δ.world.cell? p = some v := by
  rw [cell_of_block (w := w) (δ.ext.block _ (World.block_lt_of_cell? w p h) (fun h => h))]; exact h
end Go.Proofs.Ytmnfokapdipcdaa
