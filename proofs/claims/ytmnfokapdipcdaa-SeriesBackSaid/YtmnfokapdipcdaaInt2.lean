import Derived.Test.YtmnfokapdipcdaaInt
/- The methods of whole numbers: what each leaves in its receiver. -/
namespace Go.Proofs.Ytmnfokapdipcdaa
open Go.RowKit Go.Deep
theorem signed_not (x : Int) : signed (!(decide (x < 0))) x.natAbs = -x := by
  unfold signed
  by_cases h : x < 0 <;> simp [h] <;> omega
theorem signed_mul (x y : Int) : signed (!(decide (x < 0) == decide (y < 0))) (x.natAbs * y.natAbs) = x * y := by
  have hx := signed_of x
  have hy := signed_of y
  generalize decide (x < 0) = s at *
  generalize decide (y < 0) = t at *
  generalize x.natAbs = m at *
  generalize y.natAbs = n at *
  subst hx; subst hy
  cases s <;> cases t <;> simp [signed, Int.mul_neg, Int.neg_mul]
theorem signed_add (x y : Int) (h : decide (x < 0) = decide (y < 0)) : signed (decide (x < 0)) (x.natAbs + y.natAbs) = x + y := by
  have hx := signed_of x
  have hy := signed_of y
  rw [← h] at hy
  generalize decide (x < 0) = s at *
  generalize x.natAbs = m at *
  generalize y.natAbs = n at *
  subst hx; subst hy
  cases s <;> simp [signed]; omega
theorem signed_sub (x y : Int) (h : decide (x < 0) ≠ decide (y < 0)) (hn : y.natAbs ≤ x.natAbs) : signed (decide (x < 0)) (x.natAbs - y.natAbs) = x + y := by
  unfold signed
  by_cases h1 : x < 0 <;> by_cases h2 : y < 0 <;> simp [h1, h2] at h ⊢ <;> omega

/-- A source: what the walk reads of it. -/
theorem IntAt.open {w : World} {g : Nat} {x : Int} (h : IntAt w g x) : ∃ s A l c, s = decide (x < 0) ∧ l = (limbs x.natAbs).length ∧ w.heap[g]? = some (.cells #[.bool s, .slice A l c] 84) ∧ l ≤ c ∧ Lim w w.heap.size A (limbs x.natAbs) := by
  obtain ⟨A, c, h1, h2, h3⟩ := h
  exact ⟨_, A, _, c, rfl, rfl, h1, h2, h3⟩
theorem Lim.since {w w1 : World} {A : Option Addr} {xs : List Nat} (h : Lim w w.heap.size A xs) (e : Ext Nix w w1) : Lim w1 w1.heap.size A xs := (h.ext (Nat.le_refl _) e).more e.size

set_option maxRecDepth 100000 in
theorem int_neg (g gx : Nat) (z0 x : Int) (w : World) (hg : IntAt w g z0) (hx : IntAt w gx x) (hl : (limbs x.natAbs).length ≤ 1099511627776) :
    Calls Try.prog 82 #[.pointer (some ⟨g, 0, none⟩), .pointer (some ⟨gx, 0, none⟩)] w fun e w' => e = .returned (.pointer (some ⟨g, 0, none⟩)) ∧ IntAt w' g (-x) ∧ Ext (· = g) w w' := by
  obtain ⟨sx, Ax, lx, cx, Sxx, Lxx, hbx, hcx, limx⟩ := hx.open
  have r0x := Later.sign hbx
  have r1x := Later.size hbx
  have k0x := cell0_int hbx
  have k1x := cell1_int hbx
  have Sx := Lib.hid Sxx
  have Ex := And.intro (Lib.hid hl) (Lib.hid (And.intro Lxx hcx))
  clear hl Sxx Lxx hcx hbx
  go_enter Try.func82, Try.ntmps82
  go_wp2_with fail
  refine wp_region_stages (fun w' => ∃ δ : Later Nix w, w' = δ.world) [(false, 0), (false, 1), (false, 2), (false, 3), (false, 4), (false, 5), (false, 6), (false, 7), (false, 8), (false, 9), (true, 10)] 11 [.reads [_, _, _, _, _, _, _, _, _, _], .loud _] [_, _] (by kernel_rfl) (by kernel_rfl) rfl rfl ?_ ?_
  · exact ⟨⟨_, nix_drawn w⟩, rfl⟩
  refine wpStages_reads ?_
  repeat (go_big_quiet_step (fail))
  refine wpQuiet_nil ?_
  refine wpStages_loud rfl ?_
  intro K hK
  go_big_op
  rw [Ex.2.out.1]
  refine (clone_limbs Ax cx (limbs x.natAbs) (w.drewN 1) (Nat.le_refl _) (limx.drewN 1) (by rw [← Ex.2.out.1]; exact Ex.2.out.2) Ex.1.out).mono ?_
  rintro e w1 ⟨A', c', rfl, hc', hlim', hb⟩
  have he : Ext Nix w w1 := (nix_drawn w).later (Ext.of_below hb)
  refine hK _ _ ⟨⟨w1, he⟩, rfl⟩ ?_
  clear hK K
  refine wpStages_nil ?_
  go_wp2_with fail
  refine (int_put' g z0 _ A' c' (limbs x.natAbs) w1 (hg.ext he (fun h => h)) hlim' hc' Ex.1.out).mono ?_
  rintro e w2 ⟨rfl, hz, he2⟩
  rw [val_limbs, Sx.out, signed_not] at hz
  go_wp2_with fail
  go_ret
  exact ⟨rfl, hz, he.after he2 hg.num⟩

set_option maxRecDepth 100000 in
theorem int_abs (g gx : Nat) (z0 x : Int) (w : World) (hg : IntAt w g z0) (hx : IntAt w gx x) (hl : (limbs x.natAbs).length ≤ 1099511627776) :
    Calls Try.prog 91 #[.pointer (some ⟨g, 0, none⟩), .pointer (some ⟨gx, 0, none⟩)] w fun e w' => e = .returned (.pointer (some ⟨g, 0, none⟩)) ∧ IntAt w' g (x.natAbs : Int) ∧ Ext (· = g) w w' := by
  obtain ⟨sx, Ax, lx, cx, Sxx, Lxx, hbx, hcx, limx⟩ := hx.open
  have r0x := Later.sign hbx
  have r1x := Later.size hbx
  have k0x := cell0_int hbx
  have k1x := cell1_int hbx
  have Sx := Lib.hid Sxx
  have Ex := And.intro (Lib.hid hl) (Lib.hid (And.intro Lxx hcx))
  clear hl Sxx Lxx hcx hbx
  go_enter Try.func91, Try.ntmps91
  go_wp2_with fail
  rw [Ex.2.out.1]
  refine (clone_limbs Ax cx (limbs x.natAbs) w (Nat.le_refl _) limx (by rw [← Ex.2.out.1]; exact Ex.2.out.2) Ex.1.out).mono ?_
  rintro e w1 ⟨A', c', rfl, hc', hlim', hb⟩
  have he : Ext Nix w w1 := (Ext.refl Nix w (fun _ h => h.elim)).later (Ext.of_below hb)
  go_wp2_with fail
  refine (int_put' g z0 _ A' c' (limbs x.natAbs) w1 (hg.ext he (fun h => h)) hlim' hc' Ex.1.out).mono ?_
  rintro e w2 ⟨rfl, hz, he2⟩
  rw [val_limbs] at hz
  go_wp2_with fail
  go_ret
  exact ⟨rfl, hz, he.after he2 hg.num⟩

set_option maxRecDepth 100000 in
theorem int_mul (g gx gy : Nat) (z0 x y : Int) (w : World) (hg : IntAt w g z0) (hx : IntAt w gx x) (hy : IntAt w gy y) (hl : (limbs x.natAbs).length ≤ 274877906944) (hl2 : (limbs y.natAbs).length ≤ 274877906944) :
    Calls Try.prog 75 #[.pointer (some ⟨g, 0, none⟩), .pointer (some ⟨gx, 0, none⟩), .pointer (some ⟨gy, 0, none⟩)] w fun e w' => e = .returned (.pointer (some ⟨g, 0, none⟩)) ∧ IntAt w' g (x * y) ∧ Ext (· = g) w w' := by
  obtain ⟨sx, Ax, lx, cx, Sxx, Lxx, hbx, hcx, limx⟩ := hx.open
  have r0x := Later.sign hbx
  have r1x := Later.size hbx
  have k0x := cell0_int hbx
  have k1x := cell1_int hbx
  have Sx := Lib.hid Sxx
  have Ex := And.intro (Lib.hid hl) (Lib.hid (And.intro Lxx hcx))
  clear hl Sxx Lxx hcx hbx
  obtain ⟨sy, Ay, ly, cy, Sxy, Lxy, hby, hcy, limy⟩ := hy.open
  have r0y := Later.sign hby
  have r1y := Later.size hby
  have k0y := cell0_int hby
  have k1y := cell1_int hby
  have Sy := Lib.hid Sxy
  have Ey := And.intro (Lib.hid hl2) (Lib.hid (And.intro Lxy hcy))
  clear hl2 Sxy Lxy hcy hby
  go_enter Try.func75, Try.ntmps75
  go_wp2_with fail
  refine wp_region_stages (fun w' => ∃ δ : Later Nix w, w' = δ.world) [(false, 0), (false, 1), (false, 2), (false, 3), (false, 4), (false, 5), (false, 6), (false, 7), (false, 8), (false, 9), (false, 10), (false, 11), (false, 12), (false, 13), (false, 14), (false, 15), (false, 16), (false, 17), (true, 18)] 19 [.reads [_, _, _, _, _, _, _, _, _, _, _, _, _, _, _, _, _, _], .loud _] [_, _] (by kernel_rfl) (by kernel_rfl) rfl rfl ?_ ?_
  · exact ⟨⟨_, nix_drawn w⟩, rfl⟩
  refine wpStages_reads ?_
  repeat (go_big_quiet_step (fail))
  refine wpQuiet_nil ?_
  refine wpStages_loud rfl ?_
  intro K hK
  go_big_op
  rw [Ex.2.out.1, Ey.2.out.1]
  refine (big_times Ax Ay cx cy (limbs x.natAbs) (limbs y.natAbs) (w.drewN 1) (Nat.le_refl _) (limx.drewN 1) (limy.drewN 1) (by have := Ex.1.out; have := Ey.1.out; omega)).mono ?_
  rintro e w1 ⟨A', c', rfl, hc', hlim', hb⟩
  have he : Ext Nix w w1 := (nix_drawn w).later (Ext.of_below hb)
  rw [val_limbs, val_limbs] at hc' hlim' ⊢
  refine hK _ _ ⟨⟨w1, he⟩, rfl⟩ ?_
  clear hK K
  refine wpStages_nil ?_
  go_wp2_with fail
  refine (int_put' g z0 _ A' c' (limbs (x.natAbs * y.natAbs)) w1 (hg.ext he (fun h => h)) hlim' hc' (by have h := lc_mul x.natAbs y.natAbs; have := Ex.1.out; have := Ey.1.out; unfold lc at h; omega)).mono ?_
  rintro e w2 ⟨rfl, hz, he2⟩
  rw [val_limbs, Sx.out, Sy.out, signed_mul] at hz
  go_wp2_with fail
  go_ret
  exact ⟨rfl, hz, he.after he2 hg.num⟩

theorem signed_lsh (x : Int) (n : Nat) : signed (decide (x < 0)) (x.natAbs * 2 ^ n) = x * 2 ^ n := by
  have hx := signed_of x
  generalize decide (x < 0) = s at *
  generalize x.natAbs = m at *
  subst hx
  cases s <;> simp [signed, Int.neg_mul]
set_option maxRecDepth 100000 in
theorem int_lsh (g gx n : Nat) (z0 x : Int) (w : World) (hg : IntAt w g z0) (hx : IntAt w gx x) (hl : (limbs x.natAbs).length ≤ 274877906944) (hn : n ≤ 17592186044416) :
    Calls Try.prog 154 #[.pointer (some ⟨g, 0, none⟩), .pointer (some ⟨gx, 0, none⟩), .int .u64 (n : Int)] w fun e w' => e = .returned (.pointer (some ⟨g, 0, none⟩)) ∧ IntAt w' g (x * 2 ^ n) ∧ Ext (· = g) w w' := by
  obtain ⟨sx, Ax, lx, cx, Sxx, Lxx, hbx, hcx, limx⟩ := hx.open
  have r0x := Later.sign hbx
  have r1x := Later.size hbx
  have k0x := cell0_int hbx
  have k1x := cell1_int hbx
  have Sx := Lib.hid Sxx
  have Ex := And.intro (Lib.hid hl) (Lib.hid (And.intro Lxx hcx))
  clear hl Sxx Lxx hcx hbx
  have HN := Lib.hid hn
  clear hn
  go_enter Try.func154, Try.ntmps154
  go_wp2_with fail
  refine wp_region_stages (fun w' => ∃ δ : Later Nix w, w' = δ.world) [(false, 0), (false, 1), (false, 2), (false, 3), (false, 4), (false, 5), (false, 6), (false, 7), (false, 8), (false, 9), (true, 10)] 11 [.reads [_, _, _, _, _, _, _, _, _, _], .loud _] [_, _] (by kernel_rfl) (by kernel_rfl) rfl rfl ?_ ?_
  · exact ⟨⟨_, nix_drawn w⟩, rfl⟩
  refine wpStages_reads ?_
  repeat (go_big_quiet_step (fail))
  refine wpQuiet_nil ?_
  refine wpStages_loud rfl ?_
  intro K hK
  go_big_op
  rw [Ex.2.out.1]
  refine (big_left Ax cx (limbs x.natAbs) n (w.drewN 1) (Nat.le_refl _) (limx.drewN 1) (by have := Ex.1.out; omega) (by have := HN.out; omega)).mono ?_
  rintro e w1 ⟨A', c', rfl, hc', hlim', hb, _⟩
  have he : Ext Nix w w1 := (nix_drawn w).later (Ext.of_below hb)
  rw [val_limbs] at hc' hlim' ⊢
  refine hK _ _ ⟨⟨w1, he⟩, rfl⟩ ?_
  clear hK K
  refine wpStages_nil ?_
  go_wp2_with fail
  refine (int_put' g z0 _ A' c' (limbs (x.natAbs * 2 ^ n)) w1 (hg.ext he (fun h => h)) hlim' hc' (by
    have h1 : lc (x.natAbs * 2 ^ n) ≤ lc x.natAbs + n / 64 + 1 := by
      by_cases h0 : x.natAbs = 0
      · rw [h0, Nat.zero_mul]; unfold lc; rw [limbs_zero]; simp
      · rw [lc_le_nbits, nbits_mul_pow h0]
        have := nbits_le_lc x.natAbs
        omega
    have := Ex.1.out; have := HN.out; unfold lc at h1; omega)).mono ?_
  rintro e w2 ⟨rfl, hz, he2⟩
  rw [val_limbs, Sx.out, signed_lsh] at hz
  go_wp2_with fail
  go_ret
  exact ⟨rfl, hz, he.after he2 hg.num⟩

set_option maxRecDepth 100000 in
theorem int_sqrt (g gx : Nat) (z0 x : Int) (w : World) (hg : IntAt w g z0) (hx : IntAt w gx x) (hl : (limbs x.natAbs).length ≤ 274877906944) :
    Calls Try.prog 72 #[.pointer (some ⟨g, 0, none⟩), .pointer (some ⟨gx, 0, none⟩)] w fun e w' => e = .returned (.pointer (some ⟨g, 0, none⟩)) ∧ IntAt w' g (isqrt x.natAbs : Int) ∧ Ext (· = g) w w' := by
  obtain ⟨sx, Ax, lx, cx, Sxx, Lxx, hbx, hcx, limx⟩ := hx.open
  have r0x := Later.sign hbx
  have r1x := Later.size hbx
  have k0x := cell0_int hbx
  have k1x := cell1_int hbx
  have Sx := Lib.hid Sxx
  have Ex := And.intro (Lib.hid hl) (Lib.hid (And.intro Lxx hcx))
  clear hl Sxx Lxx hcx hbx
  go_enter Try.func72, Try.ntmps72
  go_wp2_with fail
  rw [Ex.2.out.1]
  refine (big_root Ax cx x.natAbs w (Nat.le_refl _) limx Ex.1.out).mono ?_
  rintro e w1 ⟨A', c', rfl, hc', hlim', hb⟩
  have he : Ext Nix w w1 := (Ext.refl Nix w (fun _ h => h.elim)).later (Ext.of_below hb)
  go_wp2_with fail
  refine (int_put' g z0 _ A' c' (limbs (isqrt x.natAbs)) w1 (hg.ext he (fun h => h)) hlim' hc' (by
    have h1 : lc (isqrt x.natAbs) ≤ lc x.natAbs := lc_mono (Nat.le_trans (by rcases Nat.eq_zero_or_pos (isqrt x.natAbs) with h | h; · rw [h]; omega
                                                                             · exact Nat.le_mul_of_pos_left _ h) (isqrt_spec x.natAbs).1)
    have := Ex.1.out; unfold lc at h1; omega)).mono ?_
  rintro e w2 ⟨rfl, hz, he2⟩
  rw [val_limbs] at hz
  go_wp2_with fail
  go_ret
  exact ⟨rfl, hz, he.after he2 hg.num⟩

set_option maxRecDepth 100000 in
theorem int_bitlen (gx : Nat) (x : Int) (w : World) (hx : IntAt w gx x) (hl : (limbs x.natAbs).length ≤ 1099511627776) :
    Calls Try.prog 92 #[.pointer (some ⟨gx, 0, none⟩)] w fun e w' => e = .returned (.int .i64 (nbits x.natAbs : Nat)) ∧ w = w' := by
  obtain ⟨sx, Ax, lx, cx, Sxx, Lxx, hbx, hcx, limx⟩ := hx.open
  have r0x := Later.sign hbx
  have r1x := Later.size hbx
  have k0x := cell0_int hbx
  have k1x := cell1_int hbx
  have Sx := Lib.hid Sxx
  have Ex := And.intro (Lib.hid hl) (Lib.hid (And.intro Lxx hcx))
  clear hl Sxx Lxx hcx hbx
  go_enter Try.func92, Try.ntmps92
  go_wp2_with fail
  rw [Ex.2.out.1]
  refine (big_size Ax cx x.natAbs w limx Ex.1.out).mono ?_
  rintro e w1 ⟨rfl, rfl⟩
  go_wp2_with fail
  go_ret
  exact ⟨rfl, rfl⟩

set_option maxRecDepth 100000 in
theorem int_sign (gx : Nat) (x : Int) (w : World) (hx : IntAt w gx x) (hl : (limbs x.natAbs).length ≤ 1099511627776) :
    Calls Try.prog 105 #[.pointer (some ⟨gx, 0, none⟩)] w fun e w' => e = .returned (.int .i64 x.sign) ∧ w = w' := by
  obtain ⟨sx, Ax, lx, cx, Sxx, Lxx, hbx, hcx, limx⟩ := hx.open
  have r0x := Later.sign hbx
  have r1x := Later.size hbx
  have k0x := cell0_int hbx
  have k1x := cell1_int hbx
  have Sx := Lib.hid Sxx
  have Ex := And.intro (Lib.hid hl) (Lib.hid (And.intro Lxx hcx))
  clear hl Sxx Lxx hcx hbx
  by_cases h0 : x = 0
  · have hl0 : lx = 0 := by rw [Ex.2.out.1, h0]; simp [limbs_zero]
    subst hl0
    have HS := Lib.hid h0
    clear h0
    go_enter Try.func105, Try.ntmps105
    go_wp2_with fail
    go_ret
    exact ⟨by rw [HS.out]; rfl, rfl⟩
  · have t0 : ((lx : Int) == 0) = false := beq_eq_false_iff_ne.2 (by
      have : lx ≠ 0 := fun e => h0 (by
        have h1 := Ex.2.out.1
        rw [e] at h1
        have := limbs_eq_nil.1 (List.eq_nil_of_length_eq_zero h1.symm)
        omega)
      omega)
    by_cases hn : x < 0
    · have hs : sx = true := by rw [Sx.out]; exact decide_eq_true hn
      subst hs
      have HS := Lib.hid hn
      clear h0 hn
      go_enter Try.func105, Try.ntmps105
      go_wp2_with fail
      go_ret
      exact ⟨by rw [Int.sign_eq_neg_one_of_neg HS.out]; rfl, rfl⟩
    · have hs : sx = false := by rw [Sx.out]; exact decide_eq_false hn
      subst hs
      have HS := Lib.hid (show 0 < x by omega)
      clear h0 hn
      go_enter Try.func105, Try.ntmps105
      go_wp2_with fail
      go_ret
      exact ⟨by rw [Int.sign_eq_one_of_pos HS.out]; rfl, rfl⟩

theorem quiet_ext (w : World) (n : Nat) : Ext Nix w (w.drewN n) := (Ext.refl Nix w (fun _ h => h.elim)).drewN n
theorem limbs_add_le (m n : Nat) : (limbs (m + n)).length ≤ max (limbs m).length (limbs n).length + 1 := lc_add m n
theorem limbs_mono {m n : Nat} (h : m ≤ n) : (limbs m).length ≤ (limbs n).length := lc_mono h
set_option maxRecDepth 100000 in
theorem int_add (g gx gy : Nat) (z0 x y : Int) (w : World) (hg : IntAt w g z0) (hx : IntAt w gx x) (hy : IntAt w gy y) (hl : (limbs x.natAbs).length ≤ 549755813888) (hl2 : (limbs y.natAbs).length ≤ 549755813888) :
    Calls Try.prog 63 #[.pointer (some ⟨g, 0, none⟩), .pointer (some ⟨gx, 0, none⟩), .pointer (some ⟨gy, 0, none⟩)] w fun e w' => e = .returned (.pointer (some ⟨g, 0, none⟩)) ∧ IntAt w' g (x + y) ∧ Ext (· = g) w w' := by
  obtain ⟨sx, Ax, lx, cx, Sxx, Lxx, hbx, hcx, limx⟩ := hx.open
  have r0x := Later.sign hbx
  have r1x := Later.size hbx
  have k0x := cell0_int hbx
  have k1x := cell1_int hbx
  have Sx := Lib.hid Sxx
  have Ex := And.intro (Lib.hid hl) (Lib.hid (And.intro Lxx hcx))
  clear hl Sxx Lxx hcx hbx
  obtain ⟨sy, Ay, ly, cy, Sxy, Lxy, hby, hcy, limy⟩ := hy.open
  have r0y := Later.sign hby
  have r1y := Later.size hby
  have k0y := cell0_int hby
  have k1y := cell1_int hby
  have Sy := Lib.hid Sxy
  have Ey := And.intro (Lib.hid hl2) (Lib.hid (And.intro Lxy hcy))
  clear hl2 Sxy Lxy hcy hby
  by_cases hs : sx = sy
  · subst hs
    have hss : (sx == sx) = true := by simp
    have HSS := Lib.hid (show decide (x < 0) = decide (y < 0) by rw [← Sx.out, ← Sy.out])
    go_enter Try.func63, Try.ntmps63
    go_wp2_with fail
    go_quiet (fail)
    go_wp2_with fail
    refine wp_region_stages (fun w' => ∃ δ : Later Nix w, w' = δ.world) [(false, 0), (false, 1), (false, 2), (false, 3), (false, 4), (false, 5), (false, 6), (false, 7), (false, 8), (false, 9), (false, 10), (false, 11), (false, 12), (true, 13)] 14 [.reads [_, _, _, _, _, _, _, _, _, _, _, _, _], .loud _] [_, _] (by kernel_rfl) (by kernel_rfl) rfl rfl ?_ ?_
    · first | exact ⟨⟨_, (quiet_ext w _).drewN 1⟩, rfl⟩ | exact ⟨⟨_, ((quiet_ext w _).drewN _).drewN 1⟩, rfl⟩
    refine wpStages_reads ?_
    repeat (go_big_quiet_step (fail))
    refine wpQuiet_nil ?_
    refine wpStages_loud rfl ?_
    intro K hK
    go_big_op
    rw [Ex.2.out.1, Ey.2.out.1]
    refine (big_plus Ax Ay cx cy (limbs x.natAbs) (limbs y.natAbs) _ (Nat.le_refl _) (limx.drewN _) (limy.drewN _) (by have := Ex.1.out; omega) (by have := Ey.1.out; omega)).mono ?_
    rintro e w1 ⟨A', c', rfl, hc', hlim', hb⟩
    have he : Ext Nix w w1 := (quiet_ext w _).later (Ext.of_below hb)
    rw [val_limbs, val_limbs] at hc' hlim' ⊢
    refine hK _ _ ⟨⟨w1, he⟩, rfl⟩ ?_
    clear hK K
    refine wpStages_nil ?_
    go_wp2_with fail
    refine (int_put' g z0 _ A' c' (limbs (x.natAbs + y.natAbs)) w1 (hg.ext he (fun h => h)) hlim' hc' (by have h := limbs_add_le x.natAbs y.natAbs; have := Ex.1.out; have := Ey.1.out; omega)).mono ?_
    rintro e w2 ⟨rfl, hz, he2⟩
    rw [val_limbs, Sx.out, signed_add x y HSS.out] at hz
    go_wp2_with fail
    go_ret
    exact ⟨rfl, hz, he.after he2 hg.num⟩
  · have hss : (sx == sy) = false := by simpa using hs
    have HSS := Lib.hid (show decide (x < 0) ≠ decide (y < 0) by rw [← Sx.out, ← Sy.out]; exact hs)
    clear hs
    have hcm : ∀ n, Calls Try.prog 115 #[.slice Ax lx cx, .slice Ay ly cy] (w.drewN n) fun e w' => e = .returned (.int .i64 (cmpN x.natAbs y.natAbs)) ∧ ∃ q, w' = (w.drewN n).drewN q := by
      intro n
      rw [Ex.2.out.1, Ey.2.out.1]
      exact big_compare Ax Ay cx cy x.natAbs y.natAbs _ (limx.drewN _) (limy.drewN _) (by have := Ex.1.out; omega) (by have := Ey.1.out; omega)
    have HCM := Lib.hid hcm
    clear hcm
    by_cases hge : y.natAbs ≤ x.natAbs
    · obtain ⟨d, hd⟩ : ∃ d : Bool, cmpN x.natAbs y.natAbs = (if d then 1 else 0) := by
        rcases Nat.lt_or_eq_of_le hge with h | h
        · exact ⟨true, cmpN_gt h⟩
        · exact ⟨false, cmpN_eq h.symm⟩
      rw [hd] at HCM
      have HGE := Lib.hid hge
      clear hge hd
      go_enter Try.func63, Try.ntmps63
      go_wp2_with fail
      go_quiet (fail)
      go_wp2_with fail
      go_quiet ((go_at_call 115; exact quiet_add (HCM.out _)))
      cases d
      all_goals
        go_wp2_with fail
        refine wp_region_stages (fun w' => ∃ δ : Later Nix w, w' = δ.world) [(false, 0), (false, 1), (false, 2), (false, 3), (false, 4), (false, 5), (false, 6), (false, 7), (false, 8), (false, 9), (false, 10), (false, 11), (false, 12), (true, 13)] 14 [.reads [_, _, _, _, _, _, _, _, _, _, _, _, _], .loud _] [_, _] (by kernel_rfl) (by kernel_rfl) rfl rfl ?_ ?_
        · first | exact ⟨⟨_, (quiet_ext w _).drewN 1⟩, rfl⟩ | exact ⟨⟨_, ((quiet_ext w _).drewN _).drewN 1⟩, rfl⟩
        refine wpStages_reads ?_
        repeat (go_big_quiet_step (fail))
        refine wpQuiet_nil ?_
        refine wpStages_loud rfl ?_
        intro K hK
        go_big_op
        rw [Ex.2.out.1, Ey.2.out.1]
        refine (big_less Ax Ay cx cy (limbs x.natAbs) (limbs y.natAbs) _ (Nat.le_refl _) (limx.drewN _) (limy.drewN _) (by have := Ex.1.out; omega) (limbs_mono HGE.out) (by rw [val_limbs, val_limbs]; exact HGE.out)).mono ?_
        rintro e w1 ⟨A', c', rfl, hc', hlim', hb⟩
        have he : Ext Nix w w1 := (quiet_ext w _).later (Ext.of_below hb)
        rw [val_limbs, val_limbs] at hc' hlim' ⊢
        refine hK _ _ ⟨⟨w1, he⟩, rfl⟩ ?_
        clear hK K
        refine wpStages_nil ?_
        go_wp2_with fail
        refine (int_put' g z0 _ A' c' (limbs (x.natAbs - y.natAbs)) w1 (hg.ext he (fun h => h)) hlim' hc' (by have h := limbs_mono (Nat.sub_le x.natAbs y.natAbs); have := Ex.1.out; omega)).mono ?_
        rintro e w2 ⟨rfl, hz, he2⟩
        rw [val_limbs, Sx.out, signed_sub x y HSS.out HGE.out] at hz
        go_wp2_with fail
        go_ret
        exact ⟨rfl, hz, he.after he2 hg.num⟩
    · rw [cmpN_lt (Nat.lt_of_not_le hge)] at HCM
      have HGE := Lib.hid (Nat.le_of_lt (Nat.lt_of_not_le hge))
      clear hge
      go_enter Try.func63, Try.ntmps63
      go_wp2_with fail
      go_quiet (fail)
      go_wp2_with fail
      go_quiet ((go_at_call 115; exact quiet_add (HCM.out _)))
      go_wp2_with fail
      refine wp_region_stages (fun w' => ∃ δ : Later Nix w, w' = δ.world) [(false, 0), (false, 1), (false, 2), (false, 3), (false, 4), (false, 5), (false, 6), (false, 7), (false, 8), (false, 9), (false, 10), (false, 11), (false, 12), (true, 13)] 14 [.reads [_, _, _, _, _, _, _, _, _, _, _, _, _], .loud _] [_, _] (by kernel_rfl) (by kernel_rfl) rfl rfl ?_ ?_
      · first | exact ⟨⟨_, (quiet_ext w _).drewN 1⟩, rfl⟩ | exact ⟨⟨_, ((quiet_ext w _).drewN _).drewN 1⟩, rfl⟩
      refine wpStages_reads ?_
      repeat (go_big_quiet_step (fail))
      refine wpQuiet_nil ?_
      refine wpStages_loud rfl ?_
      intro K hK
      go_big_op
      rw [Ex.2.out.1, Ey.2.out.1]
      refine (big_less Ay Ax cy cx (limbs y.natAbs) (limbs x.natAbs) _ (Nat.le_refl _) (limy.drewN _) (limx.drewN _) (by have := Ey.1.out; omega) (limbs_mono HGE.out) (by rw [val_limbs, val_limbs]; exact HGE.out)).mono ?_
      rintro e w1 ⟨A', c', rfl, hc', hlim', hb⟩
      have he : Ext Nix w w1 := (quiet_ext w _).later (Ext.of_below hb)
      rw [val_limbs, val_limbs] at hc' hlim' ⊢
      refine hK _ _ ⟨⟨w1, he⟩, rfl⟩ ?_
      clear hK K
      refine wpStages_nil ?_
      go_wp2_with fail
      refine (int_put' g z0 _ A' c' (limbs (y.natAbs - x.natAbs)) w1 (hg.ext he (fun h => h)) hlim' hc' (by have h := limbs_mono (Nat.sub_le y.natAbs x.natAbs); have := Ey.1.out; omega)).mono ?_
      rintro e w2 ⟨rfl, hz, he2⟩
      rw [val_limbs, Sy.out, signed_sub y x (Ne.symm HSS.out) HGE.out, Int.add_comm] at hz
      go_wp2_with fail
      go_ret
      exact ⟨rfl, hz, he.after he2 hg.num⟩
end Go.Proofs.Ytmnfokapdipcdaa
