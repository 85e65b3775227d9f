import Derived.Test.YtonbhpadoplpkaaInt
/- The methods of whole numbers: what each leaves in its receiver. -/
namespace Go.Proofs.Ytonbhpadoplpkaa
open Go.RowKit Go.Deep
theorem signed_not (x : Int) : signed (!(decide (x < 0))) x.natAbs = -x := by
  unfold signed
  by_cases h : x < 0 <;> simp [h] <;> omega
theorem signed_mul (x y : Int) : signed (!(decide (x < 0) == decide (y < 0))) (x.natAbs * y.natAbs) = x * y := by
  have hx := signed_of x
  have hy := signed_of y
  generalize decide (x < 0) = s at *
  generalize decide (y < 0) = t at *
  generalize x.natAbs = m at *
  generalize y.natAbs = n at *
  subst hx; subst hy
  cases s <;> cases t <;> simp [signed, Int.mul_neg, Int.neg_mul]
theorem signed_add (x y : Int) (h : decide (x < 0) = decide (y < 0)) : signed (decide (x < 0)) (x.natAbs + y.natAbs) = x + y := by
  have hx := signed_of x
  have hy := signed_of y
  rw [← h] at hy
  generalize decide (x < 0) = s at *
  generalize x.natAbs = m at *
  generalize y.natAbs = n at *
  subst hx; subst hy
  cases s <;> simp [signed]; omega
theorem signed_sub (x y : Int) (h : decide (x < 0) ≠ decide (y < 0)) (hn : y.natAbs ≤ x.natAbs) : signed (decide (x < 0)) (x.natAbs - y.natAbs) = x + y := by
  unfold signed
  by_cases h1 : x < 0 <;> by_cases h2 : y < 0 <;> simp [h1, h2] at h ⊢ <;> omega

/-- A source: what the walk reads of it. -/
theorem IntAt.open {w : World} {g : Nat} {x : Int} (h : IntAt w g x) : ∃ s A l c, s = decide (x < 0) ∧ l = (limbs x.natAbs).length ∧ w.heap[g]? = some (.cells #[.bool s, .slice A l c] 99) ∧ l ≤ c ∧ Lim w w.heap.size A (limbs x.natAbs) := by
  obtain ⟨A, c, h1, h2, h3⟩ := h
  exact ⟨_, A, _, c, rfl, rfl, h1, h2, h3⟩
theorem Lim.since {w w1 : World} {A : Option Addr} {xs : List Nat} (h : Lim w w.heap.size A xs) (e : Ext Nix w w1) : Lim w1 w1.heap.size A xs := (h.ext (Nat.le_refl _) e).more e.size

set_option maxRecDepth 100000 in
theorem int_neg (g gx : Nat) (z0 x : Int) (w : World) (hg : IntAt w g z0) (hx : IntAt w gx x) (hl : (limbs x.natAbs).length ≤ 1099511627776) :
    Calls Try.prog 95 #[.pointer (some ⟨g, 0, none⟩), .pointer (some ⟨gx, 0, none⟩)] w fun e w' => e = .returned (.pointer (some ⟨g, 0, none⟩)) ∧ IntAt w' g (-x) ∧ Ext (· = g) w w' := by
  obtain ⟨sx, Ax, lx, cx, Sxx, Lxx, hbx, hcx, limx⟩ := hx.open
  have r0x := Later.sign hbx
  have r1x := Later.size hbx
  have k0x := cell0_int hbx
  have k1x := cell1_int hbx
  have Sx := Lib.hid Sxx
  have Ex := And.intro (Lib.hid hl) (Lib.hid (And.intro Lxx hcx))
  clear hl Sxx Lxx hcx hbx
  go_enter Try.func95, Try.ntmps95
  go_wp2_with fail
  refine wp_region_stages (fun w' => ∃ δ : Later Nix w, w' = δ.world) [(false, 0), (false, 1), (false, 2), (false, 3), (false, 4), (false, 5), (false, 6), (false, 7), (false, 8), (false, 9), (true, 10)] 11 [.reads [_, _, _, _, _, _, _, _, _, _], .loud _] [_, _] (by kernel_rfl) (by kernel_rfl) rfl rfl ?_ ?_
  · exact ⟨⟨_, nix_drawn w⟩, rfl⟩
  refine wpStages_reads ?_
  repeat (go_big_quiet_step (fail))
  refine wpQuiet_nil ?_
  refine wpStages_loud rfl ?_
  intro K hK
  go_big_op
  rw [Ex.2.out.1]
  refine (clone_limbs Ax cx (limbs x.natAbs) (w.drewN 1) (Nat.le_refl _) (limx.drewN 1) (by rw [← Ex.2.out.1]; exact Ex.2.out.2) Ex.1.out).mono ?_
  rintro e w1 ⟨A', c', rfl, hc', hlim', hb⟩
  have he : Ext Nix w w1 := (nix_drawn w).later (Ext.of_below hb)
  refine hK _ _ ⟨⟨w1, he⟩, rfl⟩ ?_
  clear hK K
  refine wpStages_nil ?_
  go_wp2_with fail
  refine (int_put' g z0 _ A' c' (limbs x.natAbs) w1 (hg.ext he (fun h => h)) hlim' hc' Ex.1.out).mono ?_
  rintro e w2 ⟨rfl, hz, he2⟩
  rw [val_limbs, Sx.out, signed_not] at hz
  go_wp2_with fail
  go_ret
  exact ⟨rfl, hz, he.after he2 hg.num⟩
set_option maxRecDepth 100000 in
theorem int_abs (g gx : Nat) (z0 x : Int) (w : World) (hg : IntAt w g z0) (hx : IntAt w gx x) (hl : (limbs x.natAbs).length ≤ 1099511627776) :
    Calls Try.prog 103 #[.pointer (some ⟨g, 0, none⟩), .pointer (some ⟨gx, 0, none⟩)] w fun e w' => e = .returned (.pointer (some ⟨g, 0, none⟩)) ∧ IntAt w' g (x.natAbs : Int) ∧ Ext (· = g) w w' := by
  obtain ⟨sx, Ax, lx, cx, Sxx, Lxx, hbx, hcx, limx⟩ := hx.open
  have r0x := Later.sign hbx
  have r1x := Later.size hbx
  have k0x := cell0_int hbx
  have k1x := cell1_int hbx
  have Sx := Lib.hid Sxx
  have Ex := And.intro (Lib.hid hl) (Lib.hid (And.intro Lxx hcx))
  clear hl Sxx Lxx hcx hbx
  go_enter Try.func103, Try.ntmps103
  go_wp2_with fail
  rw [Ex.2.out.1]
  refine (clone_limbs Ax cx (limbs x.natAbs) w (Nat.le_refl _) limx (by rw [← Ex.2.out.1]; exact Ex.2.out.2) Ex.1.out).mono ?_
  rintro e w1 ⟨A', c', rfl, hc', hlim', hb⟩
  have he : Ext Nix w w1 := (Ext.refl Nix w (fun _ h => h.elim)).later (Ext.of_below hb)
  go_wp2_with fail
  refine (int_put' g z0 _ A' c' (limbs x.natAbs) w1 (hg.ext he (fun h => h)) hlim' hc' Ex.1.out).mono ?_
  rintro e w2 ⟨rfl, hz, he2⟩
  rw [val_limbs] at hz
  go_wp2_with fail
  go_ret
  exact ⟨rfl, hz, he.after he2 hg.num⟩
theorem signed_lsh (x : Int) (n : Nat) : signed (decide (x < 0)) (x.natAbs * 2 ^ n) = x * 2 ^ n := by
  have hx := signed_of x
  generalize decide (x < 0) = s at *
  generalize x.natAbs = m at *
  subst hx
  cases s <;> simp [signed, Int.neg_mul]
set_option maxRecDepth 100000 in
theorem int_lsh (g gx n : Nat) (z0 x : Int) (w : World) (hg : IntAt w g z0) (hx : IntAt w gx x) (hl : (limbs x.natAbs).length ≤ 274877906944) (hn : n ≤ 17592186044416) :
    Calls Try.prog 92 #[.pointer (some ⟨g, 0, none⟩), .pointer (some ⟨gx, 0, none⟩), .int .u64 (n : Int)] w fun e w' => e = .returned (.pointer (some ⟨g, 0, none⟩)) ∧ IntAt w' g (x * 2 ^ n) ∧ Ext (· = g) w w' := by
  obtain ⟨sx, Ax, lx, cx, Sxx, Lxx, hbx, hcx, limx⟩ := hx.open
  have r0x := Later.sign hbx
  have r1x := Later.size hbx
  have k0x := cell0_int hbx
  have k1x := cell1_int hbx
  have Sx := Lib.hid Sxx
  have Ex := And.intro (Lib.hid hl) (Lib.hid (And.intro Lxx hcx))
  clear hl Sxx Lxx hcx hbx
  have HN := Lib.hid hn
  clear hn
  go_enter Try.func92, Try.ntmps92
  go_wp2_with fail
  refine wp_region_stages (fun w' => ∃ δ : Later Nix w, w' = δ.world) [(false, 0), (false, 1), (false, 2), (false, 3), (false, 4), (false, 5), (false, 6), (false, 7), (false, 8), (false, 9), (true, 10)] 11 [.reads [_, _, _, _, _, _, _, _, _, _], .loud _] [_, _] (by kernel_rfl) (by kernel_rfl) rfl rfl ?_ ?_
  · exact ⟨⟨_, nix_drawn w⟩, rfl⟩
  refine wpStages_reads ?_
  repeat (go_big_quiet_step (fail))
  refine wpQuiet_nil ?_
  refine wpStages_loud rfl ?_
  intro K hK
  go_big_op
  rw [Ex.2.out.1]
  refine (big_left Ax cx (limbs x.natAbs) n (w.drewN 1) (Nat.le_refl _) (limx.drewN 1) (by have := Ex.1.out; omega) (by have := HN.out; omega)).mono ?_
  rintro e w1 ⟨A', c', rfl, hc', hlim', hb, _⟩
  have he : Ext Nix w w1 := (nix_drawn w).later (Ext.of_below hb)
  rw [val_limbs] at hc' hlim' ⊢
  refine hK _ _ ⟨⟨w1, he⟩, rfl⟩ ?_
  clear hK K
  refine wpStages_nil ?_
  go_wp2_with fail
  refine (int_put' g z0 _ A' c' (limbs (x.natAbs * 2 ^ n)) w1 (hg.ext he (fun h => h)) hlim' hc' (by
    have h1 : lc (x.natAbs * 2 ^ n) ≤ lc x.natAbs + n / 64 + 1 := by
      by_cases h0 : x.natAbs = 0
      · rw [h0, Nat.zero_mul]; unfold lc; rw [limbs_zero]; simp
      · rw [lc_le_nbits, nbits_mul_pow h0]
        have := nbits_le_lc x.natAbs
        omega
    have := Ex.1.out; have := HN.out; unfold lc at h1; omega)).mono ?_
  rintro e w2 ⟨rfl, hz, he2⟩
  rw [val_limbs, Sx.out, signed_lsh] at hz
  go_wp2_with fail
  go_ret
  exact ⟨rfl, hz, he.after he2 hg.num⟩
set_option maxRecDepth 100000 in
theorem int_sign (gx : Nat) (x : Int) (w : World) (hx : IntAt w gx x) (hl : (limbs x.natAbs).length ≤ 1099511627776) :
    Calls Try.prog 96 #[.pointer (some ⟨gx, 0, none⟩)] w fun e w' => e = .returned (.int .i64 x.sign) ∧ w = w' := by
  obtain ⟨sx, Ax, lx, cx, Sxx, Lxx, hbx, hcx, limx⟩ := hx.open
  have r0x := Later.sign hbx
  have r1x := Later.size hbx
  have k0x := cell0_int hbx
  have k1x := cell1_int hbx
  have Sx := Lib.hid Sxx
  have Ex := And.intro (Lib.hid hl) (Lib.hid (And.intro Lxx hcx))
  clear hl Sxx Lxx hcx hbx
  by_cases h0 : x = 0
  · have hl0 : lx = 0 := by rw [Ex.2.out.1, h0]; simp [limbs_zero]
    subst hl0
    have HS := Lib.hid h0
    clear h0
    go_enter Try.func96, Try.ntmps96
    go_wp2_with fail
    go_ret
    exact ⟨by rw [HS.out]; rfl, rfl⟩
  · have t0 : ((lx : Int) == 0) = false := beq_eq_false_iff_ne.2 (by
      have : lx ≠ 0 := fun e => h0 (by
        have h1 := Ex.2.out.1
        rw [e] at h1
        have := limbs_eq_nil.1 (List.eq_nil_of_length_eq_zero h1.symm)
        omega)
      omega)
    by_cases hn : x < 0
    · have hs : sx = true := by rw [Sx.out]; exact decide_eq_true hn
      subst hs
      have HS := Lib.hid hn
      clear h0 hn
      go_enter Try.func96, Try.ntmps96
      go_wp2_with fail
      go_ret
      exact ⟨by rw [Int.sign_eq_neg_one_of_neg HS.out]; rfl, rfl⟩
    · have hs : sx = false := by rw [Sx.out]; exact decide_eq_false hn
      subst hs
      have HS := Lib.hid (show 0 < x by omega)
      clear h0 hn
      go_enter Try.func96, Try.ntmps96
      go_wp2_with fail
      go_ret
      exact ⟨by rw [Int.sign_eq_one_of_pos HS.out]; rfl, rfl⟩
theorem quiet_ext (w : World) (n : Nat) : Ext Nix w (w.drewN n) := (Ext.refl Nix w (fun _ h => h.elim)).drewN n
theorem limbs_add_le (m n : Nat) : (limbs (m + n)).length ≤ max (limbs m).length (limbs n).length + 1 := lc_add m n
theorem limbs_mono {m n : Nat} (h : m ≤ n) : (limbs m).length ≤ (limbs n).length := lc_mono h
end Go.Proofs.Ytonbhpadoplpkaa
/- More methods of whole numbers. -/
namespace Go.Proofs.Ytonbhpadoplpkaa
open Go.RowKit Go.Deep
theorem Ext.alloc (w : World) (o : Obj) : Ext Nix w (w.alloc o) := Ext.of_below ((Below.refl _ w).alloc (Nat.le_refl _) o)
theorem Ext.hidden {g : Nat} {w wa w1 : World} (h : Ext Nix w wa) (k : Ext (· = g) wa w1) (hg : w.heap.size ≤ g) : Ext Nix w w1 :=
  Ext.of_below ((h.trans k).fresh fun i hi => hi.elim (fun h => h.elim) (fun h => by omega))

theorem wrap_minus {k : Nat} (h1 : 0 < k) (h2 : k ≤ 9223372036854775808) : ∃ r : Nat, IntKind.u64.wrap (-(k : Int)) = (r : Int) ∧ IntKind.u64.wrap (-(r : Int)) = (k : Int) :=
  ⟨18446744073709551616 - k, by rw [IntKind.wrap_u64]; omega, by rw [IntKind.wrap_u64]; omega⟩
theorem wrap_plus {k : Nat} (h2 : k < 9223372036854775808) : IntKind.u64.wrap (k : Int) = (k : Int) := by rw [IntKind.wrap_u64]; omega
/-- One limb, new. -/
theorem Lim.one {w : World} {k : Nat} (hk : k < W64) : Lim (w.alloc (.cells #[.int .u64 (k : Int)] 53)) (w.heap.size + 1) (some ⟨w.heap.size, 0, none⟩) [k] :=
  ⟨Small.one hk, fun _ => ⟨_, rfl, by simp, fun j hj => by
    have e : j = 0 := by simpa using hj
    subst e
    rw [add_plain, cell_of_row _ _ _ _ _ (0, 0) (heap_alloc_new w _)]; rfl⟩⟩
set_option maxRecDepth 100000 in
theorem int_setInt64 (g : Nat) (n : Int) (z0 : Int) (w : World) (hg : IntAt w g z0) (h1 : -9223372036854775808 ≤ n) (h2 : n < 9223372036854775808) :
    Calls Try.prog 101 #[.pointer (some ⟨g, 0, none⟩), .int .i64 n] w fun e w' => e = .returned (.pointer (some ⟨g, 0, none⟩)) ∧ IntAt w' g n ∧ Ext (· = g) w w' := by
  by_cases hn : n < 0
  · obtain ⟨k, hk⟩ : ∃ k : Nat, n = -(k : Int) := ⟨n.natAbs, by omega⟩
    have HK := Lib.hid hk
    obtain ⟨r, e1, e2⟩ := wrap_minus (k := k) (by omega) (by omega)
    rw [← hk] at e1
    have HW := Lib.hid (show k < W64 by rw [W64_eq]; omega)
    have tn : (decide (n < 0)) = true := decide_eq_true hn
    have HN := Lib.hid hn
    clear hk h1 h2
    go_enter Try.func101, Try.ntmps101
    go_wp2_with fail
    have ha := Ext.alloc w (.cells #[.int .u64 (k : Int)] 53)
    refine (int_put' g z0 true _ 1 [k] _ (hg.ext ha (fun h => h)) ((Lim.one HW.out).more (by simp)) (by simp) (by simp)).mono ?_
    rintro e w2 ⟨rfl, hz, he2⟩
    go_wp2_with fail
    go_ret
    exact ⟨rfl, by rw [HK.out]; simpa [signed] using hz, ha.after he2 hg.num⟩
  · obtain ⟨k, hk⟩ : ∃ k : Nat, n = (k : Int) := ⟨n.natAbs, by omega⟩
    subst hk
    have e1 := wrap_plus (k := k) (by omega)
    have HW := Lib.hid (show k < W64 by rw [W64_eq]; omega)
    have tn : (decide ((k : Int) < 0)) = false := decide_eq_false hn
    clear h1 h2 hn
    go_enter Try.func101, Try.ntmps101
    go_wp2_with fail
    have ha := Ext.alloc w (.cells #[.int .u64 (k : Int)] 53)
    refine (int_put' g z0 false _ 1 [k] _ (hg.ext ha (fun h => h)) ((Lim.one HW.out).more (by simp)) (by simp) (by simp)).mono ?_
    rintro e w2 ⟨rfl, hz, he2⟩
    go_wp2_with fail
    go_ret
    exact ⟨rfl, by simpa [signed] using hz, ha.after he2 hg.num⟩
set_option maxRecDepth 100000 in
theorem big_newInt (n : Int) (w : World) (h1 : -9223372036854775808 ≤ n) (h2 : n < 9223372036854775808) :
    Calls Try.prog 93 #[.int .i64 n] w fun e w' => e = .returned (.pointer (some ⟨w.heap.size, 0, none⟩)) ∧ IntAt w' w.heap.size n ∧ Ext Nix w w' := by
  have H1 := Lib.hid h1
  have H2 := Lib.hid h2
  clear h1 h2
  go_enter Try.func93, Try.ntmps93
  go_wp2_with fail
  have ha := Ext.alloc w (.cells #[.bool false, .slice none 0 0] 99)
  refine (int_setInt64 w.heap.size n 0 _ (IntAt.fresh w) H1.out H2.out).mono ?_
  rintro e w1 ⟨rfl, hz, he1⟩
  go_wp2_with fail
  go_ret
  exact ⟨rfl, hz, ha.hidden he1 (Nat.le_refl _)⟩
theorem signed_quo (x y : Int) : signed (!(decide (x < 0) == decide (y < 0))) (x.natAbs / y.natAbs) = x.tdiv y := by
  have hx := signed_of x
  have hy := signed_of y
  generalize decide (x < 0) = s at *
  generalize decide (y < 0) = t at *
  generalize x.natAbs = m at *
  generalize y.natAbs = n at *
  subst hx; subst hy
  cases s <;> cases t <;> simp [signed, Int.neg_tdiv, Int.tdiv_neg]
theorem signed_rem (x y : Int) : signed (decide (x < 0)) (x.natAbs % y.natAbs) = x.tmod y := by
  have hx := signed_of x
  have hy := signed_of y
  generalize decide (x < 0) = s at *
  generalize decide (y < 0) = t at *
  generalize x.natAbs = m at *
  generalize y.natAbs = n at *
  subst hx; subst hy
  cases s <;> cases t <;> simp [signed, Int.neg_tmod, Int.tmod_neg, Int.tmod_eq_emod_of_nonneg]
theorem Ext.either {g h : Nat} {w w1 w2 w3 : World} (e0 : Ext Nix w w1) (e1 : Ext (· = g) w1 w2) (e2 : Ext (· = h) w2 w3) (hg : NoNum w g) (hh : NoNum w h) : Ext (fun i => i = g ∨ i = h) w w3 :=
  ((e0.trans e1).trans e2).mono (fun i _ hi => hi.elim (fun hi => hi.elim (fun h => h.elim) .inl) .inr) (fun i hi _ => by rcases hi with rfl | rfl <;> assumption)
set_option maxRecDepth 100000 in
theorem int_quoRem (g gx gy gr : Nat) (z0 x y r0 : Int) (w : World) (hg : IntAt w g z0) (hx : IntAt w gx x) (hy : IntAt w gy y) (hr : IntAt w gr r0) (hne : gr ≠ g) (h0 : y ≠ 0) (hl : (limbs x.natAbs).length ≤ 549755813888) (hl2 : (limbs y.natAbs).length ≤ 549755813888) :
    Calls Try.prog 91 #[.pointer (some ⟨g, 0, none⟩), .pointer (some ⟨gx, 0, none⟩), .pointer (some ⟨gy, 0, none⟩), .pointer (some ⟨gr, 0, none⟩)] w fun e w' => e = .returned (.tuple #[.pointer (some ⟨g, 0, none⟩), .pointer (some ⟨gr, 0, none⟩)]) ∧ IntAt w' g (x.tdiv y) ∧ IntAt w' gr (x.tmod y) ∧ Ext (fun i => i = g ∨ i = gr) w w' := by
  obtain ⟨sx, Ax, lx, cx, Sxx, Lxx, hbx, hcx, limx⟩ := hx.open
  have r0x := Later.sign hbx
  have r1x := Later.size hbx
  have k0x := cell0_int hbx
  have k1x := cell1_int hbx
  have Sx := Lib.hid Sxx
  have Ex := And.intro (Lib.hid hl) (Lib.hid (And.intro Lxx hcx))
  clear hl Sxx Lxx hcx hbx
  obtain ⟨sy, Ay, ly, cy, Sxy, Lxy, hby, hcy, limy⟩ := hy.open
  have r0y := Later.sign hby
  have r1y := Later.size hby
  have k0y := cell0_int hby
  have k1y := cell1_int hby
  have Sy := Lib.hid Sxy
  have Ey := And.intro (Lib.hid hl2) (Lib.hid (And.intro Lxy hcy))
  clear hl2 Sxy Lxy hcy hby
  have HNE := Lib.hid hne
  have H0 := Lib.hid h0
  clear hne h0
  go_enter Try.func91, Try.ntmps91
  go_wp2_with fail
  refine wp_region_stages (fun w' => ∃ δ : Later Nix w, w' = δ.world) [(false, 0), (false, 1), (false, 2), (false, 3), (false, 4), (false, 5), (false, 6), (false, 7), (true, 8), (false, 9), (false, 10), (false, 11), (false, 12)] 13 [.reads [_, _, _, _, _, _, _, _], .loud _, .reads [_, _, _, _]] [_] (by kernel_rfl) (by kernel_rfl) rfl rfl ?_ ?_
  · exact ⟨⟨_, nix_drawn w⟩, rfl⟩
  refine wpStages_reads ?_
  repeat (go_big_quiet_step (fail))
  refine wpQuiet_nil ?_
  refine wpStages_loud rfl ?_
  intro K hK
  go_big_op
  rw [Ex.2.out.1, Ey.2.out.1]
  refine (big_over Ax Ay cx cy x.natAbs y.natAbs (w.drewN 1) (Nat.le_refl _) (limx.drewN 1) (limy.drewN 1) Ex.1.out Ey.1.out (by have := H0.out; omega)).mono ?_
  rintro e w1 ⟨Aq, cq, Ar, cr, rfl, hcq, hcr, hlimq, hlimr, hb⟩
  have he : Ext Nix w w1 := (nix_drawn w).later (Ext.of_below hb)
  refine hK _ _ ⟨⟨w1, he⟩, rfl⟩ ?_
  clear hK K
  refine wpStages_reads ?_
  repeat (go_big_quiet_step (fail))
  refine wpQuiet_nil ?_
  refine wpStages_nil ?_
  have k0x1 : w1.cell? ⟨gx, 0, none⟩ = some (.bool sx) := r0x ⟨w1, he⟩
  have k0y1 : w1.cell? ⟨gy, 0, none⟩ = some (.bool sy) := r0y ⟨w1, he⟩
  clear r0x r1x r0y r1y k0x k1x k0y k1y
  go_wp2_with fail
  go_quiet (fail)
  go_wp2_with fail
  have heq := he.drewN nq
  refine (int_put' g z0 _ Aq cq (limbs (x.natAbs / y.natAbs)) _ (hg.ext heq (fun h => h)) (hlimq.drewN _) hcq (by have h := limbs_mono (Nat.div_le_self x.natAbs y.natAbs); have := Ex.1.out; omega)).mono ?_
  rintro e w2 ⟨rfl, hz, he2⟩
  rw [val_limbs, Sx.out, Sy.out, signed_quo] at hz
  go_wp2_with fail
  refine (int_put' gr r0 _ Ar cr (limbs (x.natAbs % y.natAbs)) _ ((hr.ext heq (fun h => h)).ext he2 HNE.out) (((hlimr.drewN _).ext (Nat.le_refl _) he2).more he2.size) hcr (by have h := limbs_mono (Nat.mod_le x.natAbs y.natAbs); have := Ex.1.out; omega)).mono ?_
  rintro e w3 ⟨rfl, hz3, he3⟩
  rw [val_limbs, Sx.out, signed_rem] at hz3
  go_wp2_with fail
  go_ret2
  exact ⟨rfl, hz.ext he3 (fun h => HNE.out h.symm), hz3, heq.either he2 he3 hg.num hr.num⟩
set_option maxRecDepth 100000 in
theorem int_quo (g gx gy : Nat) (z0 x y : Int) (w : World) (hg : IntAt w g z0) (hx : IntAt w gx x) (hy : IntAt w gy y) (h0 : y ≠ 0) (hl : (limbs x.natAbs).length ≤ 549755813888) (hl2 : (limbs y.natAbs).length ≤ 549755813888) :
    Calls Try.prog 87 #[.pointer (some ⟨g, 0, none⟩), .pointer (some ⟨gx, 0, none⟩), .pointer (some ⟨gy, 0, none⟩)] w fun e w' => e = .returned (.pointer (some ⟨g, 0, none⟩)) ∧ IntAt w' g (x.tdiv y) ∧ Ext (· = g) w w' := by
  have HL := Lib.hid hl
  have HL2 := Lib.hid hl2
  have H0 := Lib.hid h0
  clear hl hl2 h0
  go_enter Try.func87, Try.ntmps87
  go_wp2_with fail
  have ha := Ext.alloc w (.cells #[.bool false, .slice none 0 0] 99)
  refine (int_quoRem g gx gy w.heap.size z0 x y 0 _ (hg.ext ha (fun h => h)) (hx.ext ha (fun h => h)) (hy.ext ha (fun h => h)) (IntAt.fresh w) (by have := hg.lt; omega) H0.out HL.out HL2.out).mono ?_
  rintro e w1 ⟨rfl, hq, _, he1⟩
  go_wp2_with fail
  go_ret
  exact ⟨rfl, hq, (ha.trans he1).mono (fun i hi h => h.elim (fun h => h.elim) (fun h => h.elim id (fun h => by omega))) (fun i hi _ => by subst hi; exact hg.num)⟩
theorem drawn_one {w : World} {a : Nat} : ∃ q, w.drewN a = w.drewN q := ⟨_, rfl⟩
theorem drawn_two {w : World} {a b : Nat} : ∃ q, (w.drewN a).drewN b = w.drewN q := ⟨a + b, World.drewN_drewN _ _ _⟩
/-- Which is less, of whole numbers. -/
def cmpZ (x y : Int) : Int := if x < y then -1 else if y < x then 1 else 0
theorem cmpZ_pos {m n : Nat} {x y : Int} (hx : x = m) (hy : y = n) : cmpZ x y = cmpN m n := by
  subst hx; subst hy
  unfold cmpZ cmpN
  simp
theorem cmpZ_neg {m n : Nat} {x y : Int} (hx : x = -(m : Int)) (hy : y = -(n : Int)) : cmpZ x y = cmpN n m := by
  subst hx; subst hy
  unfold cmpZ cmpN
  simp
end Go.Proofs.Ytonbhpadoplpkaa
/- Whole numbers by limbs: Bits, SetBits. -/
namespace Go.Proofs.Ytonbhpadoplpkaa
open Go.RowKit Go.Deep
theorem take_copy {os xs : List Nat} {k : Nat} (hl : os.length = xs.length) (hk : k < xs.length) (h : os.take k = xs.take k) : (os.set k (xs.getD k 0)).take (k + 1) = xs.take (k + 1) := by
  apply List.ext_getElem?
  intro j
  have h1 := congrArg (fun l => l[j]?) h
  simp only [List.getElem?_take] at h1 ⊢
  by_cases hj : j < k
  · rw [if_pos hj, if_pos hj] at h1
    rw [if_pos (by omega), if_pos (by omega), List.getElem?_set_ne (by omega)]
    exact h1
  · by_cases he : j = k
    · subst he
      rw [if_pos (by omega), if_pos (by omega), List.getElem?_set_self (by omega)]
      simp [hk]
    · rw [if_neg (by omega), if_neg (by omega)]

theorem later_cell {w : World} {p : Addr} {v : Value} (h : w.cell? p = some v) (δ : Later Nix w) : δ.world.cell? p = some v := by
  rw [cell_of_block (w := w) (δ.ext.block _ (World.block_lt_of_cell? w p h) (fun h => h))]; exact h
end Go.Proofs.Ytonbhpadoplpkaa
