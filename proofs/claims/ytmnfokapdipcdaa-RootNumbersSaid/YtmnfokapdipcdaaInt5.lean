import Derived.Test.YtmnfokapdipcdaaInt2
import Derived.WalkSmall
/- Whole numbers, on: Bit, SetBit, Exp. -/
namespace Go.Proofs.Ytmnfokapdipcdaa
open Go.RowKit Go.Deep
theorem limbs_getD (n k : Nat) : (limbs n).getD k 0 = n / W64 ^ k % W64 := by
  induction k generalizing n with
  | zero =>
    by_cases h : n = 0
    · subst h; rw [limbs_zero]; simp
    · rw [limbs_pos h]; simp
  | succ k ih =>
    by_cases h : n = 0
    · subst h; rw [limbs_zero]; simp
    · rw [limbs_pos h]
      show (limbs (n / W64)).getD k 0 = _
      rw [ih, Nat.div_div_eq_div_mul, Nat.pow_succ, Nat.mul_comm W64]
/-- The bit at place i. -/
def bitAt (n i : Nat) : Nat := n / 2 ^ i % 2
theorem bit_of (n q r : Nat) (hr : r < 64) : (n / W64 ^ q % W64) / 2 ^ r % 2 = bitAt n (64 * q + r) := by
  unfold bitAt
  have h1 : n / W64 ^ q = n / 2 ^ (64 * q) := by rw [W64_pow]
  rw [h1, W64_two, Nat.pow_add, ← Nat.div_div_eq_div_mul]
  generalize n / 2 ^ (64 * q) = A
  have e : 2 ^ 64 = 2 ^ r * 2 ^ (64 - r) := by rw [← Nat.pow_add]; congr 1; omega
  have h2 : A % 2 ^ 64 / 2 ^ r = A / 2 ^ r % 2 ^ (64 - r) := by rw [e, Nat.mod_mul_right_div_self]
  rw [h2]
  have h3 := Nat.pow_dvd_pow 2 (show 1 ≤ 64 - r by omega)
  rw [Nat.pow_one] at h3
  exact Nat.mod_mod_of_dvd _ h3
theorem bit_past {n i : Nat} (h : (limbs n).length ≤ i / 64) : bitAt n i = 0 := by
  have h1 : n < W64 ^ (i / 64) := limbs_length_le.1 h
  rw [W64_pow] at h1
  have h2 : n < 2 ^ i := Nat.lt_of_lt_of_le h1 (Nat.pow_le_pow_right (by omega) (by omega))
  unfold bitAt
  rw [Nat.div_eq_of_lt h2]
theorem pow2_len_at {i k : Nat} (h : i < 64 * k) : (limbs ((2 ^ i : Nat) : Int).natAbs).length ≤ k := by
  rw [Int.natAbs_natCast, limbs_length_le, W64_pow]
  exact Nat.pow_lt_pow_right (by omega) h
theorem pow2_len {i : Nat} (h : i ≤ 8796093022208) : (limbs ((2 ^ i : Nat) : Int).natAbs).length ≤ 274877906944 := Nat.le_trans (pow2_len_at (k := i / 64 + 1) (by omega)) (by omega)
set_option maxRecDepth 100000 in
theorem int_bit (gx i : Nat) (x : Int) (w : World) (hx : IntAt w gx x) (hl : (limbs x.natAbs).length ≤ 1099511627776) (hi : i ≤ 70368744177664) :
    Calls Try.prog 155 #[.pointer (some ⟨gx, 0, none⟩), .int .i64 (i : Int)] w fun e w' => e = .returned (.int .u64 (bitAt x.natAbs i : Nat)) ∧ w = w' := by
  obtain ⟨sx, Ax, lx, cx, Sxx, Lxx, hbx, hcx, limx⟩ := hx.open
  have r0x := Later.sign hbx
  have r1x := Later.size hbx
  have k0x := cell0_int hbx
  have k1x := cell1_int hbx
  have Sx := Lib.hid Sxx
  have Ex := And.intro (Lib.hid hl) (Lib.hid (And.intro Lxx hcx))
  clear hl Sxx Lxx hcx hbx
  obtain ⟨q, r, hi1, hr, hq1, hr1⟩ : ∃ q r, i = 64 * q + r ∧ r < 64 ∧ q = i / 64 ∧ r = i % 64 := ⟨i / 64, i % 64, by omega, by omega, rfl, rfl⟩
  have rk : (i : Int) / 64 = (q : Int) := by omega
  have rs : (i : Int) % 64 = (r : Int) := by omega
  have rq : (i : Int).tdiv 64 = (q : Int) := by rw [Int.tdiv_eq_ediv_of_nonneg (by omega)]; exact rk
  have rm : (i : Int).tmod 64 = (r : Int) := by rw [Int.tmod_eq_emod_of_nonneg (by omega)]; exact rs
  have hlI : (lx : Int) ≤ 1099511627776 := by have := Ex.1.out; have := Ex.2.out.1; omega
  have HI := Lib.hid hi1
  have HQ1 := Lib.hid hq1
  clear hi1 hq1 hr1
  by_cases hlt : q < lx
  · obtain ⟨ad, hAd, hb, hcell⟩ := limx.at_ (k := q) (by rw [← Ex.2.out.1]; exact hlt)
    subst hAd
    obtain ⟨y, hy⟩ : ∃ y, (limbs x.natAbs).getD q 0 = y := ⟨_, rfl⟩
    rw [hy] at hcell
    have hys : y < W64 := hy ▸ limx.small.getD q
    have HB := Lib.hid (show y / 2 ^ r % 2 = bitAt x.natAbs i by rw [← hy, limbs_getD, bit_of _ _ _ hr, ← HI.out])
    have hltI : (q : Int) < (lx : Int) := by omega
    clear hy
    go_enter Try.func155, Try.ntmps155
    go_wp2_with fail
    go_ret
    have h64 := Nat.div_le_self y (2 ^ r)
    have hyI := lt_W64 hys
    have e : bits BinOp.and IntKind.u64 ((y : Int) / 2 ^ r) 1 = ((bitAt x.natAbs i : Nat) : Int) := by
      have e1 : (y : Int) / 2 ^ r = ((y / 2 ^ r : Nat) : Int) := by simp
      have hB := HB.out
      generalize y / 2 ^ r = k at *
      rw [e1, and_one_u64 _ (by omega) (by omega), ← hB]
      omega
    exact ⟨by rw [← e]; rfl, rfl⟩
  · have hltI : (lx : Int) ≤ (q : Int) := by omega
    have HB := Lib.hid (show bitAt x.natAbs i = 0 by exact bit_past (by rw [← Ex.2.out.1, ← HQ1.out]; omega))
    clear hlt
    go_enter Try.func155, Try.ntmps155
    go_wp2_with fail
    go_ret
    exact ⟨by rw [HB.out]; rfl, rfl⟩
set_option maxRecDepth 100000 in
theorem int_setBit1 (g gx i n : Nat) (z0 : Int) (w : World) (hg : IntAt w g z0) (hx : IntAt w gx (n : Int)) (hl : (limbs n).length ≤ 274877906944) (hi : i ≤ 8796093022208) (hb : bitAt n i = 0) :
    Calls Try.prog 133 #[.pointer (some ⟨g, 0, none⟩), .pointer (some ⟨gx, 0, none⟩), .int .i64 (i : Int), .int .u64 1] w fun e w' => e = .returned (.pointer (some ⟨g, 0, none⟩)) ∧ IntAt w' g ((n + 2 ^ i : Nat) : Int) ∧ Ext (· = g) w w' := by
  have HL := Lib.hid hl
  have HI := Lib.hid hi
  have HB := Lib.hid hb
  have hiI : (i : Int) ≤ 8796093022208 := by omega
  clear hl hi hb
  go_enter Try.func133, Try.ntmps133
  go_wp2_with fail
  have ha := Ext.alloc w (.cells #[.bool false, .slice none 0 0] 84)
  have hf := IntAt.fresh w
  refine (big_newInt 1 _ (by omega) (by omega)).mono ?_
  rintro e w1 ⟨rfl, h1, he1⟩
  have he := ha.later ((he1.mono (fun _ _ h => h) (fun _ h => h.elim)) : Ext (fun _ => False) _ _)
  have hsz : (w.alloc (.cells #[.bool false, .slice none 0 0] 84)).heap.size = w.heap.size + 1 := by simp
  rw [hsz] at h1 ⊢
  have hf1 := hf.ext he1 (fun h => h)
  clear ha he1 hf hsz
  go_wp2_with fail
  refine (int_lsh w.heap.size (w.heap.size + 1) i 0 1 w1 hf1 h1 (by rw [show (1 : Int).natAbs = 1 from rfl]; have := lc_limb (x := 1) (by rw [W64_eq]; omega); unfold lc at this; omega) (by have := HI.out; omega)).mono ?_
  rintro e w2 ⟨rfl, h2, he2⟩
  have he2' : Ext Nix w w2 := he.hidden he2 (Nat.le_refl _)
  rw [show (1 : Int) * 2 ^ i = ((2 ^ i : Nat) : Int) by simp] at h2
  have hx2 := hx.ext he2' (fun h => h)
  go_wp2_with fail
  refine (int_bit gx i (n : Int) w2 hx2 (by rw [Int.natAbs_natCast]; have := HL.out; omega) (by have := HI.out; omega)).mono ?_
  rintro e w3 ⟨rfl, rfl⟩
  rw [Int.natAbs_natCast, HB.out]
  have hg2 := hg.ext he2' (fun h => h)
  have hla : (limbs ((n : Nat) : Int).natAbs).length ≤ 549755813888 := by rw [Int.natAbs_natCast]; exact Nat.le_trans HL.out (by omega)
  have hlb : (limbs ((2 ^ i : Nat) : Int).natAbs).length ≤ 274877906944 := pow2_len (by have := HI.out; omega)
  obtain ⟨sa, Aa, la, ca, Sxa, Lxa, hba, hca, lima⟩ := hx2.open
  have r0a := Later.sign hba
  have r1a := Later.size hba
  have k0a := cell0_int hba
  have k1a := cell1_int hba
  have Sa := Lib.hid Sxa
  have Ea := And.intro (Lib.hid hla) (Lib.hid (And.intro Lxa hca))
  clear hla Sxa Lxa hca hba
  obtain ⟨sb, Ab, lb, cb, Sxb, Lxb, hbb, hcb, limb⟩ := h2.open
  have r0b := Later.sign hbb
  have r1b := Later.size hbb
  have k0b := cell0_int hbb
  have k1b := cell1_int hbb
  have Sb := Lib.hid Sxb
  have Eb := And.intro (Lib.hid hlb) (Lib.hid (And.intro Lxb hcb))
  clear hlb Sxb Lxb hcb hbb
  go_wp2_with fail
  refine wp_region_stages (fun w' => ∃ δ : Later Nix w2, w' = δ.world) [(false, 0), (false, 1), (false, 2), (false, 3), (false, 4), (false, 5), (false, 6), (false, 7), (false, 8), (false, 9), (false, 10), (false, 11), (false, 12), (true, 13)] 14 [.reads [_, _, _, _, _, _, _, _, _, _, _, _, _], .loud _] [_, _] (by kernel_rfl) (by kernel_rfl) rfl rfl ?_ ?_
  · exact ⟨⟨_, nix_drawn w2⟩, rfl⟩
  refine wpStages_reads ?_
  repeat (go_big_quiet_step (fail))
  refine wpQuiet_nil ?_
  refine wpStages_loud rfl ?_
  intro K hK
  go_big_op
  rw [Ea.2.out.1, Eb.2.out.1]
  refine (big_plus Aa Ab ca cb (limbs ((n : Nat) : Int).natAbs) (limbs ((2 ^ i : Nat) : Int).natAbs) (w2.drewN 1) (Nat.le_refl _) (lima.drewN 1) (limb.drewN 1) (by have := Ea.1.out; omega) (by have := Eb.1.out; omega)).mono ?_
  rintro e w3 ⟨A', c', rfl, hc', hlim', hb3⟩
  have he3 : Ext Nix w2 w3 := (nix_drawn w2).later (Ext.of_below hb3)
  rw [val_limbs, val_limbs, Int.natAbs_natCast, Int.natAbs_natCast] at hc' hlim' ⊢
  refine hK _ _ ⟨⟨w3, he3⟩, rfl⟩ ?_
  clear hK K
  refine wpStages_nil ?_
  go_wp2_with fail
  refine (int_put' g z0 _ A' c' (limbs (n + 2 ^ i)) w3 (hg2.ext he3 (fun h => h)) hlim' hc' (by have h := limbs_add_le n (2 ^ i); have := HL.out; have := Eb.1.out; rw [Int.natAbs_natCast] at this; omega)).mono ?_
  rintro e w4 ⟨rfl, hz, he4⟩
  rw [val_limbs, Sa.out, show signed (decide (((n : Nat) : Int) < 0)) (n + 2 ^ i) = ((n + 2 ^ i : Nat) : Int) by rw [decide_eq_false (by omega)]; rfl] at hz
  go_wp2_with fail
  go_ret
  exact ⟨rfl, hz, (he2'.later (he3.mono (fun _ _ h => h) (fun _ h => h.elim))).after he4 hg.num⟩
set_option maxRecDepth 100000 in
theorem int_setBit0 (g gx i n : Nat) (z0 : Int) (w : World) (hg : IntAt w g z0) (hx : IntAt w gx (n : Int)) (hl : (limbs n).length ≤ 274877906944) (hi : i ≤ 8796093022208) (hb : bitAt n i = 1) :
    Calls Try.prog 133 #[.pointer (some ⟨g, 0, none⟩), .pointer (some ⟨gx, 0, none⟩), .int .i64 (i : Int), .int .u64 0] w fun e w' => e = .returned (.pointer (some ⟨g, 0, none⟩)) ∧ IntAt w' g ((n - 2 ^ i : Nat) : Int) ∧ Ext (· = g) w w' := by
  have HL := Lib.hid hl
  have HI := Lib.hid hi
  have HB := Lib.hid hb
  have HLE := Lib.hid (show 2 ^ i ≤ n by
    refine Nat.le_of_not_lt fun h => ?_
    unfold bitAt at hb
    rw [Nat.div_eq_of_lt h] at hb
    omega)
  have hiI : (i : Int) ≤ 8796093022208 := by omega
  clear hl hi hb
  go_enter Try.func133, Try.ntmps133
  go_wp2_with fail
  have ha := Ext.alloc w (.cells #[.bool false, .slice none 0 0] 84)
  have hf := IntAt.fresh w
  refine (big_newInt 1 _ (by omega) (by omega)).mono ?_
  rintro e w1 ⟨rfl, h1, he1⟩
  have he := ha.later ((he1.mono (fun _ _ h => h) (fun _ h => h.elim)) : Ext (fun _ => False) _ _)
  have hsz : (w.alloc (.cells #[.bool false, .slice none 0 0] 84)).heap.size = w.heap.size + 1 := by simp
  rw [hsz] at h1 ⊢
  have hf1 := hf.ext he1 (fun h => h)
  clear ha he1 hf hsz
  go_wp2_with fail
  refine (int_lsh w.heap.size (w.heap.size + 1) i 0 1 w1 hf1 h1 (by rw [show (1 : Int).natAbs = 1 from rfl]; have := lc_limb (x := 1) (by rw [W64_eq]; omega); unfold lc at this; omega) (by have := HI.out; omega)).mono ?_
  rintro e w2 ⟨rfl, h2, he2⟩
  have he2' : Ext Nix w w2 := he.hidden he2 (Nat.le_refl _)
  rw [show (1 : Int) * 2 ^ i = ((2 ^ i : Nat) : Int) by simp] at h2
  have hx2 := hx.ext he2' (fun h => h)
  go_wp2_with fail
  refine (int_bit gx i (n : Int) w2 hx2 (by rw [Int.natAbs_natCast]; have := HL.out; omega) (by have := HI.out; omega)).mono ?_
  rintro e w3 ⟨rfl, rfl⟩
  rw [Int.natAbs_natCast, HB.out]
  have hg2 := hg.ext he2' (fun h => h)
  have hla : (limbs ((n : Nat) : Int).natAbs).length ≤ 549755813888 := by rw [Int.natAbs_natCast]; exact Nat.le_trans HL.out (by omega)
  have hlb : (limbs ((2 ^ i : Nat) : Int).natAbs).length ≤ 274877906944 := by
    rw [Int.natAbs_natCast]; exact Nat.le_trans (limbs_mono HLE.out) HL.out
  obtain ⟨sa, Aa, la, ca, Sxa, Lxa, hba, hca, lima⟩ := hx2.open
  have r0a := Later.sign hba
  have r1a := Later.size hba
  have k0a := cell0_int hba
  have k1a := cell1_int hba
  have Sa := Lib.hid Sxa
  have Ea := And.intro (Lib.hid hla) (Lib.hid (And.intro Lxa hca))
  clear hla Sxa Lxa hca hba
  obtain ⟨sb, Ab, lb, cb, Sxb, Lxb, hbb, hcb, limb⟩ := h2.open
  have r0b := Later.sign hbb
  have r1b := Later.size hbb
  have k0b := cell0_int hbb
  have k1b := cell1_int hbb
  have Sb := Lib.hid Sxb
  have Eb := And.intro (Lib.hid hlb) (Lib.hid (And.intro Lxb hcb))
  clear hlb Sxb Lxb hcb hbb
  go_wp2_with fail
  refine wp_region_stages (fun w' => ∃ δ : Later Nix w2, w' = δ.world) [(false, 0), (false, 1), (false, 2), (false, 3), (false, 4), (false, 5), (false, 6), (false, 7), (false, 8), (false, 9), (false, 10), (false, 11), (false, 12), (true, 13)] 14 [.reads [_, _, _, _, _, _, _, _, _, _, _, _, _], .loud _] [_, _] (by kernel_rfl) (by kernel_rfl) rfl rfl ?_ ?_
  · exact ⟨⟨_, nix_drawn w2⟩, rfl⟩
  refine wpStages_reads ?_
  repeat (go_big_quiet_step (fail))
  refine wpQuiet_nil ?_
  refine wpStages_loud rfl ?_
  intro K hK
  go_big_op
  rw [Ea.2.out.1, Eb.2.out.1]
  refine (big_less Aa Ab ca cb (limbs ((n : Nat) : Int).natAbs) (limbs ((2 ^ i : Nat) : Int).natAbs) (w2.drewN 1) (Nat.le_refl _) (lima.drewN 1) (limb.drewN 1) (by have := Ea.1.out; omega) (by rw [Int.natAbs_natCast, Int.natAbs_natCast]; exact limbs_mono HLE.out) (by rw [val_limbs, val_limbs, Int.natAbs_natCast, Int.natAbs_natCast]; exact HLE.out)).mono ?_
  rintro e w3 ⟨A', c', rfl, hc', hlim', hb3⟩
  have he3 : Ext Nix w2 w3 := (nix_drawn w2).later (Ext.of_below hb3)
  rw [val_limbs, val_limbs, Int.natAbs_natCast, Int.natAbs_natCast] at hc' hlim' ⊢
  refine hK _ _ ⟨⟨w3, he3⟩, rfl⟩ ?_
  clear hK K
  refine wpStages_nil ?_
  go_wp2_with fail
  refine (int_put' g z0 _ A' c' (limbs (n - 2 ^ i)) w3 (hg2.ext he3 (fun h => h)) hlim' hc' (by have h := limbs_mono (Nat.sub_le n (2 ^ i)); have := HL.out; omega)).mono ?_
  rintro e w4 ⟨rfl, hz, he4⟩
  rw [val_limbs, Sa.out, show signed (decide (((n : Nat) : Int) < 0)) (n - 2 ^ i) = ((n - 2 ^ i : Nat) : Int) by rw [decide_eq_false (by omega)]; rfl] at hz
  go_wp2_with fail
  go_ret
  exact ⟨rfl, hz, (he2'.later (he3.mono (fun _ _ h => h) (fun _ h => h.elim))).after he4 hg.num⟩
theorem pow_len {x : Int} {n j L : Nat} (h : (limbs (x ^ n).natAbs).length ≤ L) (hj : j ≤ n) (hL : 1 ≤ L) : (limbs (x ^ j).natAbs).length ≤ L := by
  rw [Int.natAbs_pow] at h ⊢
  by_cases hx : x.natAbs = 0
  · rw [hx]
    have h1 : lc (0 ^ j) ≤ 1 := lc_limb (Nat.lt_of_le_of_lt (show 0 ^ j ≤ 1 by cases j with | zero => simp | succ j => rw [Nat.zero_pow (by omega)]; omega) (by rw [W64_eq]; omega))
    exact Nat.le_trans h1 hL
  · exact Nat.le_trans (limbs_mono (Nat.pow_le_pow_right (by omega) hj)) h
theorem exp_step (x : Int) (n k : Nat) : x ^ (n / 2 ^ k) = (x ^ (n / 2 ^ (k + 1)) * x ^ (n / 2 ^ (k + 1))) * (if bitAt n k = 1 then x else 1) := by
  rw [← Int.pow_add]
  have e : n / 2 ^ (k + 1) = n / 2 ^ k / 2 := by rw [Nat.pow_succ, Nat.div_div_eq_div_mul]
  unfold bitAt
  rw [e]
  generalize n / 2 ^ k = m
  rcases Nat.mod_two_eq_zero_or_one m with h | h
  · rw [h, if_neg (by omega), Int.mul_one]
    congr 1; omega
  · rw [h, if_pos rfl, ← Int.pow_succ]
    congr 1; omega
set_option maxHeartbeats 1000000 in
set_option maxRecDepth 100000 in
theorem int_exp (g gx gy n : Nat) (z0 x : Int) (w : World) (hg : IntAt w g z0) (hx : IntAt w gx x) (hy : IntAt w gy (n : Int)) (hl : (limbs (x ^ n).natAbs).length ≤ 137438953472) (hlx : (limbs x.natAbs).length ≤ 137438953472) (hn : n < W64) :
    Calls Try.prog 135 #[.pointer (some ⟨g, 0, none⟩), .pointer (some ⟨gx, 0, none⟩), .pointer (some ⟨gy, 0, none⟩), .pointer none] w fun e w' => e = .returned (.pointer (some ⟨g, 0, none⟩)) ∧ IntAt w' g (x ^ n) ∧ Ext (· = g) w w' := by
  have HL := Lib.hid hl
  have HLX := Lib.hid hlx
  have HN := Lib.hid hn
  have HYL := Lib.hid hy.lt
  clear hl hlx hn
  go_enter Try.func135, Try.ntmps135
  go_wp2_with fail
  refine (big_newInt 1 _ (by omega) (by omega)).mono ?_
  rintro e w1 ⟨rfl, h1, he1⟩
  obtain ⟨go, hgo⟩ : ∃ go, w.heap.size = go := ⟨_, rfl⟩
  have HGO := Lib.hid hgo
  rw [hgo] at h1 ⊢
  clear hgo
  go_wp2_with fail
  have ha := Ext.alloc w1 (.cells #[.bool false, .slice none 0 0] 84)
  have hf := IntAt.fresh w1
  have hx1 := (hx.ext he1 (fun h => h)).ext ha (fun h => h)
  obtain ⟨gb, hgb⟩ : ∃ gb, w1.heap.size = gb := ⟨_, rfl⟩
  have HGB := Lib.hid hgb
  rw [hgb] at hf ⊢
  clear hgb
  refine (int_set gb gx 0 x _ hf hx1 (by have := HLX.out; omega)).mono ?_
  rintro e w2 ⟨rfl, h2, he2⟩
  have hgl := h1.lt
  have hb12 : Below w1.heap.size w1 w2 := (ha.hidden he2 (by rw [HGB.out]; exact Nat.le_refl _)).below
  have ho2 := h1.below hb12
  have hE : Ext Nix w w2 := he1.later (Ext.of_below hb12)
  have hne : go ≠ gb := by have := HGB.out; omega
  have hy2 := hy.ext hE (fun h => h)
  have HE := Lib.hid hE
  clear ha hf hx1 he1 he2 hb12
  go_wp2_with fail
  refine (int_bitlen gy (n : Int) w2 hy2 (by rw [Int.natAbs_natCast]; have h1 := lc_limb HN.out; unfold lc at h1; omega)).mono ?_
  rintro e w3 ⟨rfl, rfl⟩
  rw [Int.natAbs_natCast]
  have hnb : nbits n ≤ 64 := by rw [nbits_le, ← W64_two]; exact HN.out
  obtain ⟨B, hB⟩ : ∃ B, nbits n = B := ⟨_, rfl⟩
  have HB := Lib.hid hB
  rw [hB] at hnb ⊢
  clear hB
  go_wp2_with fail
  go_loopw [12] (fun t12 wr => ∃ k : Nat, k ≤ B ∧ t12 = .int .i64 ((k : Int) - 1) ∧ IntAt wr go (x ^ (n / 2 ^ k)) ∧ IntAt wr gb x ∧ IntAt wr gy (n : Int) ∧ Ext Nix w wr) (fun t12 _ => (intOf t12 + 1).toNat)
  case atStart =>
    refine ⟨B, Nat.le_refl _, rfl, ?_, h2, hy2, hE⟩
    rw [Nat.div_eq_of_lt (by rw [← HB.out]; exact lt_nbits n), Int.pow_zero]
    exact ho2
  case round =>
    clear h2 hy2 hE ho2
    obtain ⟨k, hk, rfl, ho, hb, hy, hE⟩ := hrel
    rcases k with _ | k
    · have HE2 := Lib.hid hE
      rw [Nat.pow_zero, Nat.div_one] at ho
      go_wp2_with fail
      refine (int_set g go z0 (x ^ n) wr (hg.ext hE (fun h => h)) ho (by have := HL.out; omega)).mono ?_
      rintro e w5 ⟨rfl, hz, he5⟩
      go_wp2_with fail
      go_ret
      exact ⟨rfl, hz, HE2.out.after he5 hg.num⟩
    · have e1 : ((k + 1 : Nat) : Int) - 1 = (k : Int) := by omega
      have hkB : k ≤ 64 := by omega
      have HST := Lib.hid (exp_step x n k)
      have HL1 := Lib.hid (pow_len (j := n / 2 ^ (k + 1)) HL.out (Nat.div_le_self _ _) (by omega))
      have hb0 : (0 : Int) ≤ (k : Int) := by omega
      rw [e1]
      obtain ⟨u, hu⟩ : ∃ u, x ^ (n / 2 ^ (k + 1)) = u := ⟨_, rfl⟩
      obtain ⟨v, hv⟩ : ∃ v, x ^ (n / 2 ^ k) = v := ⟨_, rfl⟩
      rw [hu] at ho HST HL1
      rw [hv] at HST
      have HV := Lib.hid hv
      have HLV := Lib.hid (show (limbs v.natAbs).length ≤ 137438953472 by rw [← hv]; exact pow_len HL.out (Nat.div_le_self _ _) (by omega))
      have hgl : w.heap.size ≤ go := by rw [← HGO.out]; exact Nat.le_refl _
      clear hu hv
      go_wp2_with fail
      refine (int_mul go go go u u u wr ho ho ho (by have := HL1.out; omega) (by have := HL1.out; omega)).mono ?_
      rintro e w5 ⟨rfl, hz5, he5⟩
      have hE5 := hE.hidden he5 hgl
      have hb5 := hb.ext he5 (fun h => hne h.symm)
      have hy5 : IntAt w5 gy (n : Int) := hy.ext he5 (fun h => by have := HYL.out; have h : gy = go := h; omega)
      go_wp2_with fail
      refine (int_bit gy k (n : Int) w5 hy5 (by rw [Int.natAbs_natCast]; have h1 := lc_limb HN.out; unfold lc at h1; omega) (by omega)).mono ?_
      rintro e w6 ⟨rfl, rfl⟩
      rw [Int.natAbs_natCast]
      have hbit : bitAt n k = 0 ∨ bitAt n k = 1 := by unfold bitAt; omega
      rcases hbit with hbit | hbit
      · have HE2 := Lib.hid (show v = u * u by rw [HST.out, hbit, if_neg (by omega), Int.mul_one])
        rw [hbit]
        clear hbit
        go_wp2_with fail
        exact ⟨⟨k, by omega, by go_num, by rw [HV.out, HE2.out]; exact hz5, hb5, hy5, hE5⟩, by simp [intOf]⟩
      · have HE2 := Lib.hid (show v = u * u * x by rw [HST.out, hbit, if_pos rfl])
        rw [hbit]
        clear hbit
        go_wp2_with fail
        refine (int_mul go go gb (u * u) (u * u) x w5 hz5 hz5 hb5 (by
          have h1 := lc_mul u.natAbs u.natAbs
          rw [← Int.natAbs_mul] at h1
          have := HL1.out
          unfold lc at h1
          omega) (by have := HLX.out; omega)).mono ?_
        rintro e w7 ⟨rfl, hz7, he7⟩
        have hE7 := hE5.hidden he7 hgl
        have hb7 := hb5.ext he7 (fun h => hne h.symm)
        have hy7 : IntAt w7 gy (n : Int) := hy5.ext he7 (fun h => by have := HYL.out; have h : gy = go := h; omega)
        go_wp2_with fail
        exact ⟨⟨k, by omega, by go_num, by rw [HV.out, HE2.out]; exact hz7, hb7, hy7, hE7⟩, by simp [intOf]⟩
end Go.Proofs.Ytmnfokapdipcdaa
