import Derived.Test.YtonbhpadoplpkaaKar2
/- The package times: halves, deep, of any length. -/
namespace Go.Proofs.Ytonbhpadoplpkaa
open Go.RowKit Go.Deep
/-- What a product by halves tells. -/
def ProdPost (w : World) (e : Ending) (w' : World) (n : Nat) : Prop := ∃ A c, e = .returned (.slice A (limbs n).length c) ∧ (limbs n).length ≤ c ∧ Lim w' w'.heap.size A (limbs n) ∧ Fresh w' w.heap.size A c ∧ Below w.heap.size w w'
def wayF (d g : Nat) : Value := .func (.func 63) #[] #[.pointer (some ⟨d, 0, none⟩), .pointer (some ⟨g, 0, none⟩)]
/-- The closure's cells. -/
structure WayC (w : World) (d g : Nat) : Prop where
  cd : w.cell? ⟨d, 0, none⟩ = some (.int .i64 24)
  cg : w.cell? ⟨g, 0, none⟩ = some (wayF d g)
theorem WayC.stay {w w' : World} {d g : Nat} (h : WayC w d g) (hb : Below w.heap.size w w') : WayC w' d g :=
  ⟨by rw [hb.cell (World.block_lt_of_cell? w _ h.cd)]; exact h.cd, by rw [hb.cell (World.block_lt_of_cell? w _ h.cg)]; exact h.cg⟩
/-- The way serves numbers of so many limbs. -/
def Way (m d g : Nat) : Prop := ∀ (A1 A2 : Option Addr) (l1 l2 c1 c2 : Nat) (xs ys : List Nat) (W : World), Lim W W.heap.size A1 xs → Lim W W.heap.size A2 ys → l1 = xs.length → l2 = ys.length → l1 ≤ c1 → l2 ≤ c2 → l1 ≤ m → l2 ≤ m → WayC W d g →
  Calls Try.prog 63 #[.slice A1 l1 c1, .slice A2 l2 c2, .pointer (some ⟨d, 0, none⟩), .pointer (some ⟨g, 0, none⟩)] W fun e w' => ProdPost W e w' (val xs * val ys)
theorem split_half {xs : List Nat} {n p : Nat} (hp : p = min n xs.length) : val xs = val (xs.take p) + W64 ^ n * val (xs.drop p) := by
  have h := val_split xs p (by omega)
  rcases Nat.lt_or_ge xs.length n with h1 | h1
  · have e : p = xs.length := by omega
    subst e
    rw [List.drop_length, val_nil, Nat.mul_zero] at *
    rw [List.take_length]; rfl
  · have e : p = n := by omega
    rw [e] at h ⊢
    exact h
theorem Fresh.ne {w : World} {base g c : Nat} {A : Option Addr} (h : Fresh w base A c) (hg : g < base) {ad : Addr} (e : A = some ad) : ad.block ≠ g := by
  rcases h with ⟨h1, _⟩ | ⟨k, cs, h1, h2, _, _⟩
  · rw [h1] at e; cases e
  · rw [h1] at e
    injection e with e
    subst e
    show k ≠ g
    omega
theorem Lim.below' {w w' : World} {B : Nat} {A : Option Addr} {xs : List Nat} (h : Lim w B A xs) (hb : Below B w w') : Lim w' B A xs := h.below hb
theorem kar_nums {a b c f n : Nat} (_h : b < W64 ^ n ∧ f < W64 ^ n ∧ a < W64 ^ n ∧ c < W64 ^ n) : a * c ≤ (a + b) * (c + f) ∧ b * f + a * c ≤ (a + b) * (c + f) := by
  have e : (a + b) * (c + f) = a * c + a * f + b * c + b * f := by grind
  rw [e]
  omega
theorem kar_prod {a b c f n M : Nat} (h : b < W64 ^ n ∧ f < W64 ^ n ∧ a < W64 ^ n ∧ c < W64 ^ n) (hM : M + b * f + a * c = (a + b) * (c + f)) :
    a * c + W64 ^ n * M + W64 ^ (2 * n) * (b * f) = (a + W64 ^ n * b) * (c + W64 ^ n * f) ∧ a * c + W64 ^ n * M + W64 ^ (2 * n) * (b * f) < W64 ^ (4 * n + 4) := by
  have e : M = a * f + b * c := by
    have e2 : (a + b) * (c + f) = a * c + a * f + b * c + b * f := by grind
    omega
  have e3 : a * c + W64 ^ n * M + W64 ^ (2 * n) * (b * f) = (a + W64 ^ n * b) * (c + W64 ^ n * f) := by
    rw [e, show 2 * n = n + n by omega, Nat.pow_add]
    generalize W64 ^ n = P
    grind
  refine ⟨e3, ?_⟩
  rw [e3]
  have k1 : a + W64 ^ n * b < W64 ^ n * W64 ^ n := by
    have := Nat.mul_le_mul_left (W64 ^ n) (show b + 1 ≤ W64 ^ n from h.1)
    rw [Nat.mul_add, Nat.mul_one] at this
    omega
  have k2 : c + W64 ^ n * f < W64 ^ n * W64 ^ n := by
    have := Nat.mul_le_mul_left (W64 ^ n) (show f + 1 ≤ W64 ^ n from h.2.1)
    rw [Nat.mul_add, Nat.mul_one] at this
    omega
  have k3 := Nat.mul_lt_mul_of_lt_of_lt k1 k2
  refine Nat.lt_of_lt_of_le k3 ?_
  rw [← Nat.pow_add, ← Nat.pow_add]
  exact Nat.pow_le_pow_right W64_pos (by omega)
/-- How long the products are. -/
theorem kar_sizes {a b c f n : Nat} (h : b < W64 ^ n ∧ f < W64 ^ n ∧ a < W64 ^ n ∧ c < W64 ^ n) : lc (a * c) ≤ 2 * n ∧ lc (b * f) ≤ 2 * n ∧ lc (a + b) ≤ n + 1 ∧ lc (c + f) ≤ n + 1 ∧ lc ((a + b) * (c + f)) ≤ 2 * n + 2 := by
  have h1 := lc_le.2 h.2.2.1
  have h2 := lc_le.2 h.2.2.2
  have h3 := lc_le.2 h.1
  have h4 := lc_le.2 h.2.1
  have m1 := lc_mul a c
  have m2 := lc_mul b f
  have s1 := lc_add a b
  have s2 := lc_add c f
  have m3 := lc_mul (a + b) (c + f)
  omega
set_option maxHeartbeats 4000000 in
set_option maxRecDepth 100000 in
theorem times_halves (m d g : Nat) (IH : Way m d g) (A1 A2 : Option Addr) (l1 l2 c1 c2 : Nat) (xs ys : List Nat) (w : World) (h1 : Lim w w.heap.size A1 xs) (h2 : Lim w w.heap.size A2 ys) (e1 : l1 = xs.length) (e2 : l2 = ys.length) (hc1 : l1 ≤ c1) (hc2 : l2 ≤ c2) (p1 : 0 < l1) (p2 : 0 < l2) (hm : (max l1 l2 + 1) / 2 + 1 ≤ m) (hl1 : l1 ≤ 17179869184) (hl2 : l2 ≤ 17179869184) (hw : WayC w d g) :
    Calls Try.prog 65 #[.slice A1 l1 c1, .slice A2 l2 c2, wayF d g] w fun e w' => ProdPost w e w' (val xs * val ys) := by
  obtain ⟨m0, hm0⟩ : ∃ m0, max l1 l2 = m0 := ⟨_, rfl⟩
  obtain ⟨n, hn⟩ : ∃ n, (m0 + 1) / 2 = n := ⟨_, rfl⟩
  have hmI : max (l1 : Int) (l2 : Int) = (m0 : Int) := by omega
  have hnI : ((m0 : Int) + 1) / 2 = (n : Int) := by omega
  obtain ⟨p, hp⟩ : ∃ p, min n l1 = p := ⟨_, rfl⟩
  obtain ⟨q, hq⟩ : ∃ q, min n l2 = q := ⟨_, rfl⟩
  have hpI : min (n : Int) (l1 : Int) = (p : Int) := by omega
  have hqI : min (n : Int) (l2 : Int) = (q : Int) := by omega
  have m0I : (m0 : Int) ≤ 17179869184 := by omega
  have nI : (n : Int) ≤ 17179869184 := by omega
  have HN := Lib.hid (show n + 1 ≤ m ∧ l1 ≤ 2 * n ∧ l2 ≤ 2 * n ∧ p ≤ n ∧ q ≤ n ∧ l1 - p ≤ n ∧ l2 - q ≤ n ∧ p ≤ l1 ∧ q ≤ l2 ∧ n ≤ 17179869184 by rw [hm0, hn] at hm; omega)
  have HX := Lib.hid (split_half (xs := xs) (n := n) (p := p) (by rw [← hp, e1]))
  have HY := Lib.hid (split_half (xs := ys) (n := n) (p := q) (by rw [← hq, e2]))
  obtain ⟨ad1, rfl, _, _⟩ := h1.at_ (k := 0) (by omega)
  obtain ⟨ad2, rfl, _, _⟩ := h2.at_ (k := 0) (by omega)
  have H1 := Lib.hid h1
  have H2 := Lib.hid h2
  have E1 := Lib.hid e1
  have E2 := Lib.hid e2
  have HC := Lib.hid (And.intro hc1 hc2)
  have HW := Lib.hid hw
  have HIH := Lib.hid IH
  have hpN : min n l1 = p := hp
  have hqN : min n l2 = q := hq
  have pI : (p : Int) ≤ (c1 : Int) := by omega
  have qI : (q : Int) ≤ (c2 : Int) := by omega
  have pJ : (p : Int) ≤ (l1 : Int) := by omega
  have qJ : (q : Int) ≤ (l2 : Int) := by omega
  clear h1 h2 e1 e2 hc1 hc2 p1 p2 hm hl1 hl2 hw hm0 hn hp hq IH
  unfold wayF
  go_enter Try.func65, Try.ntmps65
  go_upto_region 2 with (fail)
  rw [hnI]
  clear hmI hnI
  go_cut [8, 9] (fun t8 t9 wx => ∃ (AX : Option Addr) (cX : Nat), t8 = .slice (some ad1) (limbs (val (xs.take p))).length c1 ∧ t9 = .slice AX (l1 - p) cX ∧ Hid (l1 - p ≤ cX) ∧ Hid (Lim wx wx.heap.size AX (xs.drop p)) ∧ Hid (Since w wx))
  case first =>
    by_cases hcp : c1 = p
    · have hle : l1 = c1 := by have := HN.out; have := HC.out; omega
      subst hcp
      have HLL := Lib.hid (show (xs).drop c1 = [] by rw [List.drop_of_length_le (by rw [← E1.out]; omega)])
      have HTR := Lib.hid (fun W (h : Lim W (w).heap.size (some ad1) ((xs).take c1)) => times_trim (some ad1) c1 ((xs).take c1) W h (by rw [List.length_take]; omega) (by rw [List.length_take]; have := HN.out; have := E1.out; omega))
      have hlt : ((xs).take c1).length = c1 := by rw [List.length_take, ← E1.out]; omega
      rw [hlt] at HTR
      clear hlt hle
      refine wp_region_stages (fun w' => ∃ k, w' = (w).drewN k) [(false, 0), (false, 1), (false, 2), (false, 3), (false, 4), (false, 5), (false, 7), (false, 8), (false, 9), (false, 10), (false, 11), (false, 12), (true, 6), (false, 13), (false, 14)] 15 [.reads [_, _, _, _, _, _, _, _, _, _, _, _], .loud _, .reads [_, _]] [] (by kernel_rfl) (by kernel_rfl) rfl rfl ?_ ?_
      · exact ⟨1, rfl⟩
      refine wpStages_reads ?_
      repeat (go_big_quiet_step (fail))
      refine wpQuiet_nil ?_
      refine wpStages_loud rfl ?_
      intro K hK
      go_big_op
      refine (HTR.out _ ((H1.out.take c1).drewN 1)).mono ?_
      rintro e w1 ⟨rfl, rfl⟩
      refine hK _ _ ⟨1, rfl⟩ ?_
      clear hK K
      refine wpStages_reads ?_
      repeat (go_big_quiet_step (fail))
      refine wpQuiet_nil ?_
      refine wpStages_nil ?_
      go_wp2_with fail
      go_meet
      exact ⟨some ad1, 0, rfl, rfl, Lib.hid (by have := HN.out; have := HC.out; omega), Lib.hid (by rw [HLL.out]; exact Lim.nil _ _ _), Lib.hid (below_drewN (Below.refl _ _) 1)⟩
    · have HCP := Lib.hid hcp
      have HTR := Lib.hid (fun W (h : Lim W (w).heap.size (some ad1) ((xs).take p)) => times_trim (some ad1) c1 ((xs).take p) W h (by rw [List.length_take]; have := HN.out; have := HC.out; omega) (by rw [List.length_take]; have := HN.out; have := E1.out; omega))
      have hlt : ((xs).take p).length = p := by rw [List.length_take, ← E1.out]; have := HN.out; omega
      rw [hlt] at HTR
      clear hlt
      refine wp_region_stages (fun w' => ∃ k, w' = (w).drewN k) [(false, 0), (false, 1), (false, 2), (false, 3), (false, 4), (false, 5), (false, 7), (false, 8), (false, 9), (false, 10), (false, 11), (false, 12), (true, 6), (false, 13), (false, 14)] 15 [.reads [_, _, _, _, _, _, _, _, _, _, _, _], .loud _, .reads [_, _]] [] (by kernel_rfl) (by kernel_rfl) rfl rfl ?_ ?_
      · exact ⟨1, rfl⟩
      refine wpStages_reads ?_
      repeat (go_big_quiet_step (fail))
      refine wpQuiet_nil ?_
      refine wpStages_loud rfl ?_
      intro K hK
      go_big_op
      refine (HTR.out _ ((H1.out.take p).drewN 1)).mono ?_
      rintro e w1 ⟨rfl, rfl⟩
      refine hK _ _ ⟨1, rfl⟩ ?_
      clear hK K
      refine wpStages_reads ?_
      repeat (go_big_quiet_step (fail))
      refine wpQuiet_nil ?_
      refine wpStages_nil ?_
      go_wp2_with fail
      go_meet
      have hcut := H1.out.cut (k := p) (cap := c1) (by rw [← E1.out]; have := HC.out; omega)
      rw [if_neg HCP.out] at hcut
      exact ⟨some ((ad1).add p), c1 - p, rfl, rfl, Lib.hid (by have := HN.out; have := HC.out; omega), Lib.hid (hcut.drewN 1), Lib.hid (below_drewN (Below.refl _ _) 1)⟩
  case rest =>
    clear hpI hpN pI pJ
    obtain ⟨AX, cX, rfl, rfl, HCX, HX1, HB⟩ := hcut
    have HX0 := Lib.hid (H1.out.stay HB.out)
    replace H2 := Lib.hid (H2.out.stay HB.out)
    replace HW := Lib.hid (HW.out.stay HB.out)
    go_upto_region 3 with (fail)
    go_cut [10, 11] (fun t8 t9 wx => ∃ (AY : Option Addr) (cY : Nat), t8 = .slice (some ad2) (limbs (val (ys.take q))).length c2 ∧ t9 = .slice AY (l2 - q) cY ∧ Hid (l2 - q ≤ cY) ∧ Hid (Lim wx wx.heap.size AY (ys.drop q)) ∧ Hid (Since wc wx))
    case first =>
      by_cases hcp : c2 = q
      · have hle : l2 = c2 := by have := HN.out; have := HC.out; omega
        subst hcp
        have HLL := Lib.hid (show (ys).drop c2 = [] by rw [List.drop_of_length_le (by rw [← E2.out]; omega)])
        have HTR := Lib.hid (fun W (h : Lim W (wc).heap.size (some ad2) ((ys).take c2)) => times_trim (some ad2) c2 ((ys).take c2) W h (by rw [List.length_take]; omega) (by rw [List.length_take]; have := HN.out; have := E2.out; omega))
        have hlt : ((ys).take c2).length = c2 := by rw [List.length_take, ← E2.out]; omega
        rw [hlt] at HTR
        clear hlt hle
        refine wp_region_stages (fun w' => ∃ k, w' = (wc).drewN k) [(false, 0), (false, 1), (false, 2), (false, 3), (false, 4), (false, 5), (false, 7), (false, 8), (false, 9), (false, 10), (false, 11), (false, 12), (true, 6), (false, 13), (false, 14)] 15 [.reads [_, _, _, _, _, _, _, _, _, _, _, _], .loud _, .reads [_, _]] [] (by kernel_rfl) (by kernel_rfl) rfl rfl ?_ ?_
        · exact ⟨1, rfl⟩
        refine wpStages_reads ?_
        repeat (go_big_quiet_step (fail))
        refine wpQuiet_nil ?_
        refine wpStages_loud rfl ?_
        intro K hK
        go_big_op
        refine (HTR.out _ ((H2.out.take c2).drewN 1)).mono ?_
        rintro e w1 ⟨rfl, rfl⟩
        refine hK _ _ ⟨1, rfl⟩ ?_
        clear hK K
        refine wpStages_reads ?_
        repeat (go_big_quiet_step (fail))
        refine wpQuiet_nil ?_
        refine wpStages_nil ?_
        go_wp2_with fail
        go_meet
        exact ⟨some ad2, 0, rfl, rfl, Lib.hid (by have := HN.out; have := HC.out; omega), Lib.hid (by rw [HLL.out]; exact Lim.nil _ _ _), Lib.hid (below_drewN (Below.refl _ _) 1)⟩
      · have HCP := Lib.hid hcp
        have HTR := Lib.hid (fun W (h : Lim W (wc).heap.size (some ad2) ((ys).take q)) => times_trim (some ad2) c2 ((ys).take q) W h (by rw [List.length_take]; have := HN.out; have := HC.out; omega) (by rw [List.length_take]; have := HN.out; have := E2.out; omega))
        have hlt : ((ys).take q).length = q := by rw [List.length_take, ← E2.out]; have := HN.out; omega
        rw [hlt] at HTR
        clear hlt
        refine wp_region_stages (fun w' => ∃ k, w' = (wc).drewN k) [(false, 0), (false, 1), (false, 2), (false, 3), (false, 4), (false, 5), (false, 7), (false, 8), (false, 9), (false, 10), (false, 11), (false, 12), (true, 6), (false, 13), (false, 14)] 15 [.reads [_, _, _, _, _, _, _, _, _, _, _, _], .loud _, .reads [_, _]] [] (by kernel_rfl) (by kernel_rfl) rfl rfl ?_ ?_
        · exact ⟨1, rfl⟩
        refine wpStages_reads ?_
        repeat (go_big_quiet_step (fail))
        refine wpQuiet_nil ?_
        refine wpStages_loud rfl ?_
        intro K hK
        go_big_op
        refine (HTR.out _ ((H2.out.take q).drewN 1)).mono ?_
        rintro e w1 ⟨rfl, rfl⟩
        refine hK _ _ ⟨1, rfl⟩ ?_
        clear hK K
        refine wpStages_reads ?_
        repeat (go_big_quiet_step (fail))
        refine wpQuiet_nil ?_
        refine wpStages_nil ?_
        go_wp2_with fail
        go_meet
        have hcut := H2.out.cut (k := q) (cap := c2) (by rw [← E2.out]; have := HC.out; omega)
        rw [if_neg HCP.out] at hcut
        exact ⟨some ((ad2).add q), c2 - q, rfl, rfl, Lib.hid (by have := HN.out; have := HC.out; omega), Lib.hid (hcut.drewN 1), Lib.hid (below_drewN (Below.refl _ _) 1)⟩
    case rest =>
      clear hqI hqN qI qJ
      obtain ⟨AY, cY, rfl, rfl, HCY, HY1, HB2⟩ := hcut
      have HY0 := Lib.hid (H2.out.stay HB2.out)
      replace HX0 := Lib.hid (HX0.out.stay HB2.out)
      replace HX1 := Lib.hid (HX1.out.stay HB2.out)
      replace HW := Lib.hid (HW.out.stay HB2.out)
      replace HB := Lib.hid (HB.out.stay HB2.out)
      clear HB2 H1 H2
      have HXT := Lib.hid (show Lim wc wc.heap.size (some ad1) (limbs (val (xs.take p))) from (HX0.out.take p).trim)
      have HYT := Lib.hid (show Lim wc wc.heap.size (some ad2) (limbs (val (ys.take q))) from (HY0.out.take q).trim)
      have HSX := Lib.hid (show (xs.drop p).length = l1 - p ∧ (limbs (val (xs.take p))).length ≤ n ∧ (limbs (val (xs.take p))).length ≤ c1 by
        have h1 := limbs_val_le (HX0.out.small.take p)
        rw [List.length_take] at h1
        have h2 := HN.out
        have h3 := HC.out
        rw [List.length_drop, E1.out]
        refine ⟨rfl, by omega, by have := E1.out; omega⟩)
      have HSY := Lib.hid (show (ys.drop q).length = l2 - q ∧ (limbs (val (ys.take q))).length ≤ n ∧ (limbs (val (ys.take q))).length ≤ c2 by
        have h1 := limbs_val_le (HY0.out.small.take q)
        rw [List.length_take] at h1
        have h2 := HN.out
        have h3 := HC.out
        rw [List.length_drop, E2.out]
        refine ⟨rfl, by omega, by have := E2.out; omega⟩)
      obtain ⟨a, ha⟩ : ∃ a, val (xs.take p) = a := ⟨_, rfl⟩
      obtain ⟨b, hb⟩ : ∃ b, val (xs.drop p) = b := ⟨_, rfl⟩
      obtain ⟨c, hc⟩ : ∃ c, val (ys.take q) = c := ⟨_, rfl⟩
      obtain ⟨f, hf⟩ : ∃ f, val (ys.drop q) = f := ⟨_, rfl⟩
      rw [ha] at HXT HSX HX ⊢
      rw [hb] at HX
      rw [hc] at HYT HSY HY ⊢
      rw [hf] at HY
      have HBD := Lib.hid (show b < W64 ^ n ∧ f < W64 ^ n ∧ a < W64 ^ n ∧ c < W64 ^ n by
        have h1 := HN.out
        refine ⟨?_, ?_, lc_le.1 HSX.out.2.1, lc_le.1 HSY.out.2.1⟩
        · rw [← hb]; exact Nat.lt_of_lt_of_le (val_lt HX1.out.small) (Nat.pow_le_pow_right W64_pos (by rw [HSX.out.1]; omega))
        · rw [← hf]; exact Nat.lt_of_lt_of_le (val_lt HY1.out.small) (Nat.pow_le_pow_right W64_pos (by rw [HSY.out.1]; omega)))
      have HBV := Lib.hid (And.intro hb hf)
      clear ha hb hc hf HX0 HY0
      go_wp2_with fail
      have C := HIH.out (some ad1) (some ad2) _ _ c1 c2 (limbs a) (limbs c) wc HXT.out HYT.out rfl rfl HSX.out.2.2 HSY.out.2.2 (by have := HSX.out.2.1; have := HN.out; omega) (by have := HSY.out.2.1; have := HN.out; omega) HW.out
      rw [val_limbs, val_limbs] at C
      refine C.mono ?_
      rintro e w4 ⟨Al, cl, rfl, hcl, hll, -, hb⟩
      have HL := Lib.hid hll
      have HCL := Lib.hid hcl
      replace HXT := Lib.hid (HXT.out.stay hb)
      replace HYT := Lib.hid (HYT.out.stay hb)
      replace HX1 := Lib.hid (HX1.out.stay hb)
      replace HY1 := Lib.hid (HY1.out.stay hb)
      replace HW := Lib.hid (HW.out.stay hb)
      replace HB := Lib.hid (HB.out.stay hb)
      clear C hcl hll hb
      go_wp2_with fail
      have C := HIH.out AX AY (l1 - p) (l2 - q) cX cY (xs.drop p) (ys.drop q) w4 HX1.out HY1.out HSX.out.1.symm HSY.out.1.symm HCX.out HCY.out (by have := HN.out; omega) (by have := HN.out; omega) HW.out
      rw [HBV.out.1, HBV.out.2] at C
      refine C.mono ?_
      rintro e w5 ⟨Ah, ch, rfl, hch, hlh, -, hb⟩
      have HH := Lib.hid hlh
      have HCH := Lib.hid hch
      replace HXT := Lib.hid (HXT.out.stay hb)
      replace HYT := Lib.hid (HYT.out.stay hb)
      replace HX1 := Lib.hid (HX1.out.stay hb)
      replace HY1 := Lib.hid (HY1.out.stay hb)
      replace HW := Lib.hid (HW.out.stay hb)
      replace HB := Lib.hid (HB.out.stay hb)
      replace HL := Lib.hid (HL.out.stay hb)
      clear C hch hlh hb
      have HKL := Lib.hid (kar_sizes HBD.out)
      have hmk := make_limbs (2 * n + 3) (by have := HN.out; omega)
      rw [Int.natCast_add, Int.natCast_mul, show ((2 : Nat) : Int) = 2 from rfl, show ((3 : Nat) : Int) = 3 from rfl] at hmk
      go_upto_region 6 with (fail)
      obtain ⟨W5, gm, hW5, hgm⟩ : ∃ W g, w5.alloc (.cells (madeCells #[.int .u64 0] (2 * n + 3)) 53) = W ∧ w5.heap.size = g := ⟨_, _, rfl, rfl⟩
      have hb5 : Below w5.heap.size w5 W5 := by rw [← hW5]; exact (Below.refl _ _).alloc (Nat.le_refl _) _
      have HRM := Lib.hid (show Row W5 gm (List.replicate (2 * n + 3) 0) by rw [← hW5, ← hgm]; exact Row.made _ _)
      have HFM := Lib.hid (show Fresh W5 gm (some ⟨gm, 0, none⟩) (2 * n + 3) by rw [← hW5, ← hgm]; exact Fresh.made w5 (2 * n + 3))
      have HGM := Lib.hid (show w5.heap.size = gm ∧ w.heap.size ≤ gm from ⟨hgm, by rw [← hgm]; exact HB.out.size⟩)
      have HLW := Lib.hid HL.out
      have HHW := Lib.hid HH.out
      rw [hW5, hgm]
      replace HXT := Lib.hid (HXT.out.stay hb5)
      replace HYT := Lib.hid (HYT.out.stay hb5)
      replace HX1 := Lib.hid (HX1.out.stay hb5)
      replace HY1 := Lib.hid (HY1.out.stay hb5)
      replace HW := Lib.hid (HW.out.stay hb5)
      replace HB := Lib.hid (HB.out.stay hb5)
      have HB5 := Lib.hid (show Below gm w5 W5 by rw [← hgm]; exact hb5)
      clear hW5 hgm hb5 hmk HL HH
      go_wp2_with fail
      have C := times_sum (some ad1) AX _ (l1 - p) c1 cX (limbs a) (xs.drop p) W5 HXT.out HX1.out rfl HSX.out.1.symm (by have := HSX.out.2.1; have := HN.out; omega) (by have := HN.out; omega)
      rw [val_limbs, HBV.out.1] at C
      refine C.mono ?_
      rintro e w6 ⟨As, cs, rfl, hcs, hls, -, hb⟩
      have HS := Lib.hid hls
      have HCS := Lib.hid hcs
      replace HB5 := Lib.hid (HB5.out.trans (hb.mono (Nat.le_of_lt HRM.out.lt)))
      replace HFM := Lib.hid (HFM.out.below hb)
      replace HYT := Lib.hid (HYT.out.stay hb)
      replace HY1 := Lib.hid (HY1.out.stay hb)
      replace HW := Lib.hid (HW.out.stay hb)
      replace HB := Lib.hid (HB.out.stay hb)
      replace HRM := Lib.hid (HRM.out.stay hb)
      clear C hcs hls hb
      go_wp2_with fail
      have C := times_sum (some ad2) AY _ (l2 - q) c2 cY (limbs c) (ys.drop q) w6 HYT.out HY1.out rfl HSY.out.1.symm (by have := HSY.out.2.1; have := HN.out; omega) (by have := HN.out; omega)
      rw [val_limbs, HBV.out.2] at C
      refine C.mono ?_
      rintro e w7 ⟨At, ct, rfl, hct, hlt, -, hb⟩
      have HT := Lib.hid hlt
      have HCT := Lib.hid hct
      replace HB5 := Lib.hid (HB5.out.trans (hb.mono (Nat.le_of_lt HRM.out.lt)))
      replace HFM := Lib.hid (HFM.out.below hb)
      replace HS := Lib.hid (HS.out.stay hb)
      replace HW := Lib.hid (HW.out.stay hb)
      replace HB := Lib.hid (HB.out.stay hb)
      replace HRM := Lib.hid (HRM.out.stay hb)
      clear C hct hlt hb
      go_wp2_with fail
      have C := HIH.out As At _ _ cs ct (limbs (a + b)) (limbs (c + f)) w7 HS.out HT.out rfl rfl HCS.out HCT.out (by have h1 := HKL.out.2.2.1; have := HN.out; unfold lc at h1; omega) (by have h1 := HKL.out.2.2.2.1; have := HN.out; unfold lc at h1; omega) HW.out
      rw [val_limbs, val_limbs] at C
      refine C.mono ?_
      rintro e w8 ⟨Ap, cp, rfl, hcp, hlp, hfp, hb⟩
      have HP := Lib.hid hlp
      have HNP := Lib.hid (fun (_ : 0 < (limbs ((a + b) * (c + f))).length) ad e => hfp.ne HRM.out.lt (ad := ad) e)
      replace HB5 := Lib.hid (HB5.out.trans (hb.mono (Nat.le_of_lt HRM.out.lt)))
      replace HFM := Lib.hid (HFM.out.below hb)
      replace HB := Lib.hid (HB.out.stay hb)
      replace HRM := Lib.hid (HRM.out.stay hb)
      clear C hcp hlp hfp hb HW HS HT
      obtain ⟨PM, hPM⟩ : ∃ x, (a + b) * (c + f) = x := ⟨_, rfl⟩
      have HPM := Lib.hid hPM
      rw [hPM] at HP HNP HKL ⊢
      clear hPM
      go_wp2_with fail
      have C := times_put gm (2 * n + 3) (2 * n + 3) 0 (List.replicate (2 * n + 3) 0) Ap _ cp (limbs PM) w8 HRM.out HP.out HNP.out (by rw [List.length_replicate]) rfl (by have h1 := HKL.out.2.2.2.2; unfold lc at h1; omega) (by rw [val_zeros, Nat.pow_zero, Nat.one_mul, Nat.zero_add, val_limbs]; exact lc_le.1 (by have := HKL.out.2.2.2.2; omega)) (by have := HN.out; omega)
      rw [Int.natCast_zero, val_zeros, Nat.pow_zero, Nat.one_mul, Nat.zero_add, val_limbs] at C
      refine C.mono ?_
      rintro e w9 ⟨v9, os9, rfl, hr, hl9, hv9, hgr⟩
      have HLM := Lib.hid (And.intro hl9 hv9)
      replace HB5 := Lib.hid (below_grown HB5.out (Nat.le_of_lt HRM.out.lt) hgr.1 (Nat.le_refl _))
      replace HB := Lib.hid (show Since w w9 from below_grown HB.out HB.out.size hgr.1 HGM.out.2)
      replace HFM := Lib.hid (hgr.2 _ _ HFM.out)
      replace HRM := Lib.hid hr
      clear C hr hl9 hv9 hgr HP HNP
      go_wp2_with fail
      have HNUM := Lib.hid (kar_nums HBD.out)
      have C := times_take gm (2 * n + 3) (2 * n + 3) os9 Al _ cl (limbs (a * c)) w9 HRM.out ((HLW.out.below' (by rw [HGM.out.1]; exact HB5.out)).more (by have := HRM.out.lt; have := HGM.out.1; omega)) (HLW.out.far (by rw [HGM.out.1]; exact Nat.le_refl _)) HLM.out.1.symm rfl (by have h1 := HKL.out.1; unfold lc at h1; omega) (by rw [val_limbs, HLM.out.2, ← HPM.out]; exact HNUM.out.1) (by have := HN.out; omega)
      rw [val_limbs, HLM.out.2] at C
      refine C.mono ?_
      rintro e w10 ⟨v10, os10, rfl, hr, hl10, hv10, hgr⟩
      have HV10 := Lib.hid hv10
      have HL10 := Lib.hid hl10
      replace HB5 := Lib.hid (below_grown HB5.out (Nat.le_of_lt HRM.out.lt) hgr.1 (Nat.le_refl _))
      replace HB := Lib.hid (show Since w w10 from below_grown HB.out HB.out.size hgr.1 HGM.out.2)
      replace HFM := Lib.hid (hgr.2 _ _ HFM.out)
      replace HRM := Lib.hid hr
      clear C hr hl10 hv10 hgr HLM
      go_wp2_with fail
      have C := times_take gm (2 * n + 3) (2 * n + 3) os10 Ah _ ch (limbs (b * f)) w10 HRM.out ((HHW.out.below' (by rw [HGM.out.1]; exact HB5.out)).more (by have := HRM.out.lt; have := HGM.out.1; omega)) (HHW.out.far (by rw [HGM.out.1]; exact Nat.le_refl _)) HL10.out.symm rfl (by have h1 := HKL.out.2.1; unfold lc at h1; omega) (by rw [val_limbs]; have h1 := HNUM.out.2; have h2 := HV10.out; have h3 := HPM.out; omega) (by have := HN.out; omega)
      rw [val_limbs] at C
      refine C.mono ?_
      rintro e w11 ⟨v11, os11, rfl, hr, hl11, hv11, hgr⟩
      have HV11 := Lib.hid (show val os11 + b * f + a * c = (a + b) * (c + f) by rw [hv11, HV10.out, HPM.out])
      have HL11 := Lib.hid hl11
      replace HB5 := Lib.hid (below_grown HB5.out (Nat.le_of_lt HRM.out.lt) hgr.1 (Nat.le_refl _))
      replace HB := Lib.hid (show Since w w11 from below_grown HB.out HB.out.size hgr.1 HGM.out.2)
      replace HFM := Lib.hid (hgr.2 _ _ HFM.out)
      replace HRM := Lib.hid hr
      clear C hr hl11 hv11 hgr HV10 HL10
      obtain ⟨M, hM⟩ : ∃ M, val os11 = M := ⟨_, rfl⟩
      have HMV := Lib.hid hM
      have HPROD := Lib.hid (kar_prod (n := n) (M := M) HBD.out (by rw [← hM]; exact HV11.out))
      have HML := Lib.hid (show lc M ≤ 2 * n + 3 by rw [← hM]; exact Nat.le_trans (limbs_val_le HRM.out.small) (by rw [HL11.out]; exact Nat.le_refl _))
      clear hM
      have hmk := make_limbs (4 * n + 4) (by have := HN.out; omega)
      rw [Int.natCast_add, Int.natCast_mul, show ((4 : Nat) : Int) = 4 from rfl] at hmk
      go_upto_region 10 with (fail)
      obtain ⟨W11, go, hW, hgo⟩ : ∃ W g, w11.alloc (.cells (madeCells #[.int .u64 0] (4 * n + 4)) 53) = W ∧ w11.heap.size = g := ⟨_, _, rfl, rfl⟩
      have hb11 : Below w11.heap.size w11 W11 := by rw [← hW]; exact (Below.refl _ _).alloc (Nat.le_refl _) _
      have HRO := Lib.hid (show Row W11 go (List.replicate (4 * n + 4) 0) by rw [← hW, ← hgo]; exact Row.made _ _)
      have HFO := Lib.hid (show Fresh W11 go (some ⟨go, 0, none⟩) (4 * n + 4) by rw [← hW, ← hgo]; exact Fresh.made w11 (4 * n + 4))
      have HGO := Lib.hid (show gm < go ∧ w.heap.size ≤ go from ⟨by rw [← hgo]; exact HRM.out.lt, by rw [← hgo]; exact HB.out.size⟩)
      rw [hW, hgo]
      have HL := Lib.hid (((HLW.out.below' (by rw [HGM.out.1]; exact HB5.out)).more (show w5.heap.size ≤ go by have h1 := HGM.out.1; have h2 := HGO.out.1; omega)))
      have HH := Lib.hid (((HHW.out.below' (by rw [HGM.out.1]; exact HB5.out)).more (show w5.heap.size ≤ go by have h1 := HGM.out.1; have h2 := HGO.out.1; omega)))
      have HBO := Lib.hid (show Below go w11 W11 by rw [← hgo]; exact hb11)
      replace HB := Lib.hid (HB.out.stay hb11)
      clear hW hgo hb11 hmk HLW HHW HB5
      go_wp2_with fail
      have C := times_put go (4 * n + 4) (4 * n + 4) 0 (List.replicate (4 * n + 4) 0) Al _ cl (limbs (a * c)) W11 HRO.out (HL.out.below' HBO.out |>.more (Nat.le_of_lt HRO.out.lt)) (HL.out.far (Nat.le_refl _)) (by rw [List.length_replicate]) rfl (by have h1 := HKL.out.1; unfold lc at h1; omega) (by rw [val_zeros, Nat.pow_zero, Nat.one_mul, Nat.zero_add, val_limbs]; have := HPROD.out.2; omega) (by have := HN.out; omega)
      rw [Int.natCast_zero, val_zeros, Nat.pow_zero, Nat.one_mul, Nat.zero_add, val_limbs] at C
      refine C.mono ?_
      rintro e w12 ⟨v12, os12, rfl, hr, hl12, hv12, hgr⟩
      have HV12 := Lib.hid hv12
      have HL12 := Lib.hid hl12
      replace HBO := Lib.hid (below_grown HBO.out (Nat.le_of_lt HRO.out.lt) hgr.1 (Nat.le_refl _))
      replace HB := Lib.hid (show Since w w12 from below_grown HB.out HB.out.size hgr.1 HGO.out.2)
      replace HFO := Lib.hid (hgr.2 _ _ HFO.out)
      replace HRO := Lib.hid hr
      clear C hr hl12 hv12 hgr HL
      go_wp2_with fail
      have HRM2 := Lib.hid (show Lim w12 go (some ⟨gm, 0, none⟩) os11 from (HRM.out.lim HGO.out.1).below' HBO.out)
      have T := times_trim (some ⟨gm, 0, none⟩) (2 * n + 3) os11 w12 HRM2.out (by rw [HL11.out]; exact Nat.le_refl _) (by rw [HL11.out]; have := HN.out; omega)
      rw [HL11.out, HMV.out] at T
      have HTM := Lib.hid (show Lim w12 go (some ⟨gm, 0, none⟩) (limbs M) by rw [← HMV.out]; exact HRM2.out.trim)
      refine T.mono ?_
      rintro e w13 ⟨rfl, rfl⟩
      clear T HRM2
      go_wp2_with fail
      have C := times_put go (4 * n + 4) (4 * n + 4) n os12 (some ⟨gm, 0, none⟩) _ (2 * n + 3) (limbs M) w12 HRO.out (HTM.out.more (Nat.le_of_lt HRO.out.lt)) (HTM.out.far (Nat.le_refl _)) HL12.out.symm rfl (by have h1 := HML.out; unfold lc at h1; omega) (by rw [HV12.out, val_limbs]; have := HPROD.out.2; omega) (by have := HN.out; omega)
      rw [HV12.out, val_limbs] at C
      refine C.mono ?_
      rintro e w14 ⟨v14, os14, rfl, hr, hl14, hv14, hgr⟩
      have HV14 := Lib.hid hv14
      have HL14 := Lib.hid hl14
      replace HBO := Lib.hid (below_grown HBO.out (Nat.le_of_lt HRO.out.lt) hgr.1 (Nat.le_refl _))
      replace HB := Lib.hid (show Since w w14 from below_grown HB.out HB.out.size hgr.1 HGO.out.2)
      replace HFO := Lib.hid (hgr.2 _ _ HFO.out)
      replace HRO := Lib.hid hr
      clear C hr hl14 hv14 hgr HTM HV12 HL12
      go_wp2_with fail
      have C := times_put go (4 * n + 4) (4 * n + 4) (2 * n) os14 Ah _ ch (limbs (b * f)) w14 HRO.out ((HH.out.below' HBO.out).more (Nat.le_of_lt HRO.out.lt)) (HH.out.far (Nat.le_refl _)) HL14.out.symm rfl (by have h1 := HKL.out.2.1; unfold lc at h1; omega) (by rw [HV14.out, val_limbs]; exact HPROD.out.2) (by have := HN.out; omega)
      rw [HV14.out, val_limbs, HPROD.out.1, ← HX.out, ← HY.out, Int.natCast_mul, show ((2 : Nat) : Int) = 2 from rfl] at C
      refine C.mono ?_
      rintro e w15 ⟨v15, os15, rfl, hr, hl15, hv15, hgr⟩
      have HV15 := Lib.hid hv15
      have HL15 := Lib.hid hl15
      replace HB := Lib.hid (show Since w w15 from below_grown HB.out HB.out.size hgr.1 HGO.out.2)
      replace HFO := Lib.hid (hgr.2 _ _ HFO.out)
      replace HRO := Lib.hid hr
      clear C hr hl15 hv15 hgr
      go_wp2_with fail
      have T := times_trim (some ⟨go, 0, none⟩) (4 * n + 4) os15 w15 HRO.out.lim' (by rw [HL15.out]; exact Nat.le_refl _) (by rw [HL15.out]; have := HN.out; omega)
      rw [HL15.out, HV15.out] at T
      refine T.mono ?_
      rintro e w16 ⟨rfl, rfl⟩
      clear T
      go_wp2_with fail
      go_ret
      have hl3 := limbs_val_le HRO.out.small
      have ht := HRO.out.lim'.trim
      rw [HV15.out] at hl3 ht
      rw [HL15.out] at hl3
      exact ⟨_, _, rfl, hl3, ht, HFO.out.since HGO.out.2, HB.out⟩
set_option maxHeartbeats 1000000 in
set_option maxRecDepth 100000 in
theorem times_way (d g : Nat) : ∀ m, m ≤ 17179869184 → Way m d g := by
  intro m
  induction m with
  | zero =>
    intro _ A1 A2 l1 l2 c1 c2 xs ys W h1 h2 e1 e2 _ _ hm1 hm2 hw
    exact times_deep1 A1 A2 l1 l2 c1 c2 d g xs ys W h1 h2 e1 e2 (by omega) hw.cd (by omega)
  | succ m ih =>
    intro hm A1 A2 l1 l2 c1 c2 xs ys W h1 h2 e1 e2 hc1 hc2 hm1 hm2 hw
    by_cases hs : min l1 l2 < 24
    · exact times_deep1 A1 A2 l1 l2 c1 c2 d g xs ys W h1 h2 e1 e2 (by omega) hw.cd hs
    · have hsI : ¬ min (l1 : Int) (l2 : Int) < 24 := by omega
      have HH := Lib.hid (times_halves m d g (ih (by omega)) A1 A2 l1 l2 c1 c2 xs ys W h1 h2 e1 e2 hc1 hc2 (by omega) (by omega) (by omega) (by omega) (by omega) hw)
      have hd := hw.cd
      have hg := hw.cg
      unfold wayF at hg
      clear ih h1 h2 e1 e2 hc1 hc2 hm1 hm2 hw hs
      go_enter Try.func63, Try.ntmps63
      go_wp2_with fail
      refine HH.out.mono ?_
      rintro e w1 ⟨A, c, rfl, hc, hl, hf, hb⟩
      have H := Lib.hid (And.intro hc (And.intro hl (And.intro hf hb)))
      clear hc hl hf hb hd hg
      go_wp2_with fail
      go_ret
      exact ⟨A, c, rfl, H.out.1, H.out.2.1, H.out.2.2.1, H.out.2.2.2⟩
end Go.Proofs.Ytonbhpadoplpkaa
