import Derived.Test.YtmnfokapdipcdaaRef3
/- The package rosetteref00: natural numbers: NatUp. -/
namespace Go.Proofs.Ytmnfokapdipcdaa
open Go.RowKit Go.Deep
theorem up_step {P d x c b s o : Nat} (h : o + c * P = d * b) (hs : x * b + c = s) : o + P * (s % W32) + s / W32 * (P * W32) = (d + P * x) * b := by
  have h2 := Nat.mod_add_div s W32
  have e1 : s / W32 * (P * W32) = P * (W32 * (s / W32)) := by ac_rfl
  have e2 : c * P = P * c := Nat.mul_comm _ _
  have e3 : (d + P * x) * b = d * b + P * (x * b) := by rw [Nat.add_mul]; congr 1; ac_rfl
  rw [e1, e3]
  rw [e2] at h
  have h4 : P * (s % W32 + W32 * (s / W32)) = P * (x * b + c) := by rw [h2, hs]
  rw [Nat.mul_add, Nat.mul_add] at h4
  omega
theorem pow_mod_lt (n : Nat) : 2 ^ (n % 32) ≤ 2147483648 := by
  have h := Nat.pow_le_pow_right (n := 2) (by omega) (show n % 32 ≤ 31 by omega)
  exact h
set_option maxHeartbeats 1000000 in
set_option maxRecDepth 100000 in
theorem ref_up (A1 : Option Addr) (l1 c1 n : Nat) (xs : List Nat) (w : World) (h1 : Lim w w.heap.size A1 xs) (e1 : l1 = xs.length) (hl1 : l1 ≤ 137438953472) (hn : n ≤ 137438953472) :
    Calls Try.prog 125 #[.slice A1 l1 c1, .int .i64 (n : Int)] w fun e w' => ∃ v, e = .returned v ∧ Own w' w.heap.size v (limbs (val xs * 2 ^ n)) ∧ Below w.heap.size w w' := by
  have E1 := Lib.hid e1
  have HL := Lib.hid (And.intro hl1 hn)
  clear e1 hl1 hn
  go_enter Try.func125, Try.ntmps125
  go_wp2_with fail
  refine (ref_halves A1 l1 c1 xs w h1 E1.out (by have := HL.out; omega)).mono ?_
  rintro e w1 ⟨v1, rfl, ho1, hb1⟩
  obtain ⟨A3, c3, rfl, hc3, hlim3, _⟩ := ho1.form
  have D1 := dig_length xs
  have HV := Lib.hid (val32_dig xs)
  have HT := tiny_dig h1.small
  have hnil : dig xs = [] → val xs = 0 := fun h => by rw [← val32_dig xs, h]; rfl
  generalize dig xs = dx at hlim3 HV HT D1 hnil ⊢
  have HTX := Lib.hid HT
  obtain ⟨lx, hlx⟩ : ∃ lx, dx.length = lx := ⟨_, rfl⟩
  rw [hlx] at D1 ⊢
  have HLX := Lib.hid hlx
  have HNIL := Lib.hid hnil
  have hlxI : (lx : Int) ≤ 274877906944 := by have := HL.out; have := E1.out; omega
  clear ho1 D1 HT hlx hc3 hnil
  by_cases h0 : lx = 0
  · subst h0
    have HZ := Lib.hid (show limbs (val xs * 2 ^ n) = [] by
      rw [HNIL.out (List.eq_nil_of_length_eq_zero HLX.out)]; simp [limbs_zero])
    go_wp2_with fail
    go_ret
    rw [HZ.out]
    exact ⟨_, rfl, Own.nil _ _, hb1⟩
  · have t0 : ((lx : Int) == 0) = false := beq_eq_false_iff_ne.2 (by omega)
    obtain ⟨q, hq⟩ : ∃ q, n / 32 = q := ⟨_, rfl⟩
    obtain ⟨r, hr⟩ : ∃ r, n % 32 = r := ⟨_, rfl⟩
    have hqI : (n : Int) / 32 = (q : Int) := by omega
    have hrI : (n : Int) % 32 = (r : Int) := by omega
    have hmk := make_limbs q (by have := HL.out; omega)
    have HQR := Lib.hid (show n = 32 * q + r ∧ r ≤ 31 ∧ q ≤ 4294967296 by have := HL.out; omega)
    have hrb : (r : Int) ≤ 31 := by omega
    have hqb : (q : Int) ≤ 4294967296 := by have := HQR.out; omega
    have hnb : (n : Int) ≤ 137438953472 := by have := HL.out; omega
    clear hq hr h0
    go_wp2_with fail
    go_loopw [8, 9] (fun t8 t9 wr => ∃ i b : Nat, i ≤ r ∧ b = 2 ^ i ∧ t8 = .int .u64 (b : Int) ∧ t9 = .int .i64 (i : Int) ∧ wr = w1.alloc (.cells (madeCells #[.int .u64 0] q) 33)) (fun _ t9 _ => r - (intOf t9).toNat)
    case atStart => exact ⟨0, 1, by omega, rfl, rfl, rfl, rfl⟩
    case round =>
      obtain ⟨i, b, hi, hb, rfl, rfl, rfl⟩ := hrel
      have HB := Lib.hid hb
      clear hb
      by_cases hlt : i < r
      · have hltI : (i : Int) < (r : Int) := by omega
        have HB31 := Lib.hid (show b ≤ 2147483648 by
          have h2 := HQR.out
          have h3 := Nat.pow_le_pow_right (n := 2) (by omega) (show i ≤ 31 by omega)
          rw [← HB.out] at h3
          exact h3)
        obtain ⟨b2, hb2⟩ : ∃ b2, 2 * b = b2 := ⟨_, rfl⟩
        have hb2I : (2 : Int) * (b : Int) = (b2 : Int) := by omega
        have wb : IntKind.u64.wrap (b2 : Int) = (b2 : Int) := wrap64_in (by have := HB31.out; rw [W64_eq]; omega)
        have HS := Lib.hid (show b2 = 2 ^ (i + 1) by rw [← hb2, HB.out, Nat.pow_succ]; omega)
        clear hb2
        go_wp2_with fail
        exact ⟨⟨i + 1, b2, by omega, HS.out, rfl, by go_num, by trivial⟩, by simp [intOf]; omega⟩
      · obtain rfl : r = i := by omega
        have hltI : ¬ (r : Int) < (r : Int) := by omega
        have HB31 := Lib.hid (show b ≤ 2147483648 ∧ 0 < b by
          have h2 := HQR.out
          have h3 := Nat.pow_le_pow_right (n := 2) (by omega) (show r ≤ 31 by omega)
          rw [← HB.out] at h3
          exact ⟨h3, by rw [HB.out]; exact Nat.pow_pos (by omega)⟩)
        have hO0 := Own.made w1 w1.heap.size q q (Nat.le_refl _) (Nat.le_refl _) (by have := HQR.out; omega)
        have hb0 : Below w1.heap.size w1 (w1.alloc (.cells (madeCells #[.int .u64 0] q) 33)) := (Below.refl _ _).alloc (Nat.le_refl _) _
        generalize w1.alloc (.cells (madeCells #[.int .u64 0] q) 33) = W2 at hO0 hb0 ⊢
        clear hmk hlt hi
        go_wp2_with fail
        go_loopw [6, 7, 10] (fun t6 t7 t10 wr => ∃ (i cy : Nat) (os : List Nat), i ≤ lx ∧ t7 = .int .u64 (cy : Int) ∧ t10 = .int .i64 (i : Int) ∧ cy < b ∧ os.length = q + i ∧ Tiny os ∧ Own wr w1.heap.size t6 os ∧ Below w1.heap.size w1 wr ∧ val32 os + cy * W32 ^ (q + i) = val32 (dx.take i) * W32 ^ q * b) (fun _ _ t10 _ => lx - (intOf t10).toNat)
        case atStart => exact ⟨0, 0, List.replicate q 0, by omega, rfl, rfl, HB31.out.2, by simp, Tiny.zeros q, hO0, hb0, by simp [val32, val32_zeros]⟩
        case round =>
          clear hO0 hb0
          obtain ⟨i, cy, os, hi, rfl, rfl, hcy, ho, hto, hown, hbel, hval⟩ := hrel
          obtain ⟨A7, k7, c7, rfl⟩ := hown.slice
          have HO := Lib.hid ho
          have HTO := Lib.hid hto
          have HV2 := Lib.hid hval
          have HCY := Lib.hid hcy
          clear ho hto hval hcy
          have HLE := Lib.hid (show os.length + 1 ≤ 17592186044416 by rw [HO.out]; have := HQR.out; omega)
          by_cases hgo : i < lx
          · have hgoI : (i : Int) < (lx : Int) := by omega
            have HIX := Lib.hid (show i < dx.length by rw [HLX.out]; exact hgo)
            obtain ⟨ad, rfl, _, hc⟩ := (hlim3.below hbel).at_ HIX.out
            obtain ⟨x, hx⟩ : ∃ x, dx.getD i 0 = x := ⟨_, rfl⟩
            rw [hx] at hc
            have HX := Lib.hid hx
            have HXT := Lib.hid (show x < 4294967296 by rw [← hx, ← W32_eq]; exact HTX.out.getD i)
            obtain ⟨p, hp⟩ : ∃ p, x * b = p := ⟨_, rfl⟩
            have HP := Lib.hid (show p + b ≤ 4294967296 * b by
              have h2 : (x + 1) * b ≤ 4294967296 * b := Nat.mul_le_mul_right _ HXT.out
              rw [Nat.succ_mul, hp] at h2
              exact h2)
            obtain ⟨s, hs⟩ : ∃ s, p + cy = s := ⟨_, rfl⟩
            have HS4 := Lib.hid (show p < 9223372036854775808 ∧ s < 4294967296 * b ∧ s < 9223372036854775808 by
              have h1 := HP.out
              have h2 := HB31.out
              have h3 := HCY.out
              omega)
            obtain ⟨sm, hsm⟩ : ∃ sm, s % 4294967296 = sm := ⟨_, rfl⟩
            obtain ⟨sd, hsd⟩ : ∃ sd, s / 4294967296 = sd := ⟨_, rfl⟩
            have hpI : (x : Int) * (b : Int) = (p : Int) := by rw [← hp]; simp
            have hsI : (p : Int) + (cy : Int) = (s : Int) := by omega
            have hsmI : (s : Int) % 4294967296 = (sm : Int) := by omega
            have hsdI : (s : Int) / 4294967296 = (sd : Int) := by omega
            have wp : IntKind.u64.wrap (p : Int) = (p : Int) := wrap64_in (by have := HS4.out; rw [W64_eq]; omega)
            have ws : IntKind.u64.wrap (s : Int) = (s : Int) := wrap64_in (by have := HS4.out; rw [W64_eq]; omega)
            have wm : IntKind.u64.wrap (sm : Int) = (sm : Int) := wrap64_in (by have := HS4.out; rw [W64_eq]; omega)
            have wd : IntKind.u64.wrap (sd : Int) = (sd : Int) := wrap64_in (by have := HS4.out; rw [W64_eq]; omega)
            have HSM := Lib.hid (show sm < W32 ∧ sm < W64 ∧ sd < b from ⟨by rw [← hsm, ← W32_eq]; exact Nat.mod_lt _ W32_pos, by rw [W64_eq]; omega, by rw [← hsd]; exact Nat.div_lt_of_lt_mul HS4.out.2.1⟩)
            have HST := Lib.hid (show val32 (os ++ [sm]) + sd * W32 ^ (q + (i + 1)) = val32 (dx.take (i + 1)) * W32 ^ q * b by
              have h3 := up_step (P := W32 ^ (q + i)) (x := x) (b := b) (s := s) HV2.out (by rw [hp, hs])
              rw [val32_take_step, val32_snoc, HO.out, HX.out, ← hsm, ← hsd, ← Nat.add_assoc, Nat.pow_succ, ← W32_eq, h3, Nat.add_mul _ _ (W32 ^ q), Nat.pow_add]
              congr 2
              ac_rfl)
            clear hx hp hs hsm hsd
            go_wp2_with (at_builtin; refine append_one (w0 := w1) w1.heap.size rfl _ _ rfl _ os sm (by rfl) (by rfl) HSM.out.2.1 hown hbel hbel.size HLE.out ?_)
            intro v3 w3 hown1 hbel1 _
            go_wp2_with fail
            exact ⟨⟨i + 1, sd, os ++ [sm], by omega, rfl, by go_num, HSM.out.2.2, by rw [List.length_append, HO.out]; rfl, HTO.out.append (Tiny.one HSM.out.1), hown1, hbel1, HST.out⟩, by simp [intOf]; omega⟩
          · obtain rfl : lx = i := by omega
            have HCW := Lib.hid (show cy < W32 ∧ cy < W64 by
              have h1 := HCY.out
              have h2 := HB31.out
              rw [W32_eq, W64_eq]; omega)
            have HF := Lib.hid (show val32 (os ++ [cy]) = val xs * 2 ^ n by
              have h3 := HV2.out
              rw [List.take_of_length_le (by rw [HLX.out]; exact Nat.le_refl _), HV.out, Nat.mul_comm cy] at h3
              rw [val32_snoc, HO.out, h3, HB.out, HQR.out.1, Nat.pow_add, Nat.pow_mul, show (2 : Nat) ^ 32 = W32 by rw [W32_eq]]
              ac_rfl)
            go_wp2_with (at_builtin; refine append_one (w0 := w1) w1.heap.size rfl _ _ rfl _ os cy (by rfl) (by rfl) HCW.out.2 hown hbel hbel.size HLE.out ?_)
            intro v3 w3 hown1 hbel1 _
            have htz := HTO.out.append (Tiny.one HCW.out.1)
            have HLEN := Lib.hid (show (os ++ [cy]).length ≤ 1099511627776 by rw [List.length_append, HO.out]; have := HQR.out; simp only [List.length_singleton]; omega)
            generalize os ++ [cy] = zs at hown1 htz HF HLEN ⊢
            obtain ⟨A8, c8, rfl, hc8, hlim8, _⟩ := hown1.form
            have HTZ := Lib.hid htz
            clear hown hgo htz hc8
            go_wp2_with fail
            refine (ref_limbs A8 zs.length c8 zs w3 hlim8 HTZ.out rfl HLEN.out).mono ?_
            rintro e w4 ⟨v, rfl, ho4, hb4⟩
            have hb := hb1.trans (hbel1.mono hb1.size)
            go_wp2_with fail
            go_ret
            rw [HF.out] at ho4
            exact ⟨v, rfl, ho4.mono hb.size, hb.trans (hb4.mono hb.size)⟩
end Go.Proofs.Ytmnfokapdipcdaa
/- The package rosetteref00: numbers of any sign. -/
namespace Go.Proofs.Ytmnfokapdipcdaa
open Go.RowKit Go.Deep
/-- The value v is the number z (of exponent 0). -/
def NumAt (w : World) (v : Value) (z : Int) : Prop :=
  ∃ b A l c, v = .agg #[.bool b, .slice A l c, .int .i64 0] ∧ l = (limbs z.natAbs).length ∧ l ≤ c ∧ Lim w w.heap.size A (limbs z.natAbs) ∧ signed b z.natAbs = z ∧ Own w 0 (.slice A l c) (limbs z.natAbs)
/-- .. its limbs lent: they need lie in no row of their own. -/
def NumL (w : World) (v : Value) (z : Int) : Prop :=
  ∃ b A l c, v = .agg #[.bool b, .slice A l c, .int .i64 0] ∧ l = (limbs z.natAbs).length ∧ l ≤ c ∧ Lim w w.heap.size A (limbs z.natAbs) ∧ signed b z.natAbs = z
theorem NumL.below {w w' : World} {v : Value} {z : Int} (h : NumL w v z) (hb : Below w.heap.size w w') : NumL w' v z := by
  obtain ⟨b, A, l, c, e, hl, hc, hlim, hs⟩ := h
  exact ⟨b, A, l, c, e, hl, hc, (hlim.below hb).more hb.size, hs⟩
theorem NumAt.lend {w : World} {v : Value} {z : Int} (h : NumAt w v z) : NumL w v z := by
  obtain ⟨b, A, l, c, e, hl, hc, hlim, hs, _⟩ := h
  exact ⟨b, A, l, c, e, hl, hc, hlim, hs⟩
theorem NumAt.below {w w' : World} {v : Value} {z : Int} (h : NumAt w v z) (hb : Below w.heap.size w w') : NumAt w' v z := by
  obtain ⟨b, A, l, c, e, hl, hc, hlim, hs, ho⟩ := h
  exact ⟨b, A, l, c, e, hl, hc, (hlim.below hb).more hb.size, hs, ho.below hb⟩
theorem NumAt.of {w : World} {b : Bool} {A : Option Addr} {l c n : Nat} (hl : l = (limbs n).length) (hc : l ≤ c) (hlim : Lim w w.heap.size A (limbs n)) (ho : Own w 0 (.slice A l c) (limbs n)) : NumAt w (.agg #[.bool b, .slice A l c, .int .i64 0]) (signed b n) :=
  ⟨b, A, l, c, rfl, by rw [signed_natAbs]; exact hl, hc, by rw [signed_natAbs]; exact hlim, by rw [signed_natAbs], by rw [signed_natAbs]; exact ho⟩
section
variable {w w' : World} {g : Nat} {x y z a b c : Value} {t : TypeId}
/-- A box of three cells. -/
def Box3 (w : World) (g : Nat) (t : TypeId) (x y z : Value) : Prop := w.heap[g]? = some (.cells #[x, y, z] t (0, 0))
theorem Box3.below {B : Nat} (h : Box3 w g t x y z) (hb : Below B w w') (hg : g < B) : Box3 w' g t x y z := by
  unfold Box3 at h ⊢
  rw [hb.block g hg]; exact h
theorem Box3.cell0 (h : Box3 w g t x y z) : w.cell? ⟨g, 0, none⟩ = some x := by rw [cell_of_row w g 0 _ _ (0, 0) h]; rfl
theorem Box3.cell1 (h : Box3 w g t x y z) : w.cell? ⟨g, 1, none⟩ = some y := by rw [cell_of_row w g 1 _ _ (0, 0) h]; rfl
theorem Box3.cell2 (h : Box3 w g t x y z) : w.cell? ⟨g, 2, none⟩ = some z := by rw [cell_of_row w g 2 _ _ (0, 0) h]; rfl
theorem Box3.free (h : Box3 w g t x y z) (k : Nat) : w.frozen? ⟨g, k, none⟩ = false := by
  unfold Box3 at h
  simp [World.frozen?, h]
theorem Box3.lt (h : Box3 w g t x y z) : g < w.heap.size := (Array.getElem?_eq_some_iff.1 h).1
theorem Box3.store (h : Box3 w g t x y z) : Box3 (((w.setCell ⟨g, 0, none⟩ a).setCell ⟨g, 1, none⟩ b).setCell ⟨g, 2, none⟩ c) g t a b c := by
  unfold Box3 at h ⊢
  simp [World.setCell, Array.getElem?_modify, h]
theorem store3_below {B : Nat} (hb : Below B w w') (hg : B ≤ g) : Below B w (((w'.setCell ⟨g, 0, none⟩ a).setCell ⟨g, 1, none⟩ b).setCell ⟨g, 2, none⟩ c) :=
  ((hb.setCell (p := ⟨g, 0, none⟩) hg _).setCell (p := ⟨g, 1, none⟩) hg _).setCell (p := ⟨g, 2, none⟩) hg _
theorem Box3.new (w : World) (o : Obj) (x y z : Value) (t : TypeId) : Box3 ((w.alloc o).alloc (.cells #[x, y, z] t)) (w.heap.size + 1) t x y z := by
  have h := heap_alloc_new (w.alloc o) (.cells #[x, y, z] t)
  rwa [show (w.alloc o).heap.size = w.heap.size + 1 by simp] at h
end
theorem Lim.store3 {w : World} {B g : Nat} {a b c : Value} {A : Option Addr} {xs : List Nat} (h : Lim w B A xs) (hB : B ≤ g) : Lim (((w.setCell ⟨g, 0, none⟩ a).setCell ⟨g, 1, none⟩ b).setCell ⟨g, 2, none⟩ c) B A xs :=
  h.below (((Below.refl B w |>.setCell (p := ⟨g, 0, none⟩) hB _).setCell (p := ⟨g, 1, none⟩) hB _).setCell (p := ⟨g, 2, none⟩) hB _)
/-- Limbs of a row of one's own stay where a box is written. -/
theorem Own.store3 {w : World} {base g : Nat} {x y z a b c v : Value} {ys : List Nat} (h : Own w base v ys) (hx : Box3 w g 79 x y z) : Own (((w.setCell ⟨g, 0, none⟩ a).setCell ⟨g, 1, none⟩ b).setCell ⟨g, 2, none⟩ c) base v ys := by
  have hne : ∀ k, v.ownBlock = some k → k ≠ g := by
    intro k hk e
    subst e
    obtain ⟨cs, hc⟩ := h.type hk
    unfold Box3 at hx
    rw [hc] at hx
    simp at hx
  exact ((h.far ⟨g, 0, none⟩ _ hne).far ⟨g, 1, none⟩ _ hne).far ⟨g, 2, none⟩ _ hne
set_option maxRecDepth 100000 in
theorem num_zeroL (v : Value) (z : Int) (w : World) (h : NumL w v z) (hl : (limbs z.natAbs).length ≤ 137438953472) :
    Calls Try.prog 109 #[v] w fun e w' => e = .returned (.bool (decide (z = 0))) ∧ Below w.heap.size w w' := by
  obtain ⟨b, A, l, c, rfl, hlen, hc, hlim, hs⟩ := h
  have HLEN := Lib.hid hlen
  have HC := Lib.hid hc
  have HL := Lib.hid hl
  have HE := Lib.hid (show ((nbits z.natAbs : Nat) : Int) = 0 ↔ z = 0 by
    constructor
    · intro h0
      by_cases hz : z.natAbs = 0
      · omega
      · have := nbits_pos hz
        omega
    · intro h0; subst h0; rfl)
  clear hlen hc hl hs
  go_enter Try.func109, Try.ntmps109
  go_wp2_with fail
  have hb0 : Below w.heap.size w (w.alloc (.cells #[.bool b, .slice A l c, .int .i64 0] 79)) := (Below.refl _ w).alloc (Nat.le_refl _) _
  refine (ref_bits A l c (limbs z.natAbs) _ ((hlim.below hb0).more hb0.size) HLEN.out HC.out (by have := HL.out; have := HLEN.out; omega)).mono ?_
  rintro e w1 ⟨rfl, hb1⟩
  rw [val_limbs]
  obtain ⟨nb, hnb⟩ : ∃ nb : Int, ((nbits z.natAbs : Nat) : Int) = nb := ⟨_, rfl⟩
  have HNB := Lib.hid hnb
  rw [hnb]
  clear hnb
  go_wp2_with fail
  go_ret
  refine ⟨?_, hb0.trans (hb1.mono hb0.size)⟩
  have h1 := HE.out
  rw [HNB.out] at h1
  by_cases h0 : nb = 0
  · rw [decide_eq_true (h1.1 h0), h0]; rfl
  · rw [decide_eq_false (fun e => h0 (h1.2 e))]
    have t0 : (nb == 0) = false := beq_eq_false_iff_ne.2 h0
    show Ending.returned (.bool (nb == 0)) = _
    rw [t0]
theorem num_zero (v : Value) (z : Int) (w : World) (h : NumAt w v z) (hl : (limbs z.natAbs).length ≤ 137438953472) :
    Calls Try.prog 109 #[v] w fun e w' => e = .returned (.bool (decide (z = 0))) ∧ Below w.heap.size w w' := num_zeroL v z w h.lend hl
set_option maxRecDepth 100000 in
theorem num_minus (v : Value) (z : Int) (w : World) (h : NumAt w v z) :
    Calls Try.prog 122 #[v] w fun e w' => ∃ v', e = .returned v' ∧ NumAt w' v' (-z) ∧ Below w.heap.size w w' := by
  obtain ⟨b, A, l, c, rfl, hlen, hc, hlim, hs, hown⟩ := h
  have HLEN := Lib.hid hlen
  have HC := Lib.hid hc
  have HS := Lib.hid hs
  clear hlen hc hs
  go_enter Try.func122, Try.ntmps122
  go_wp2_with fail
  have hg := heap_alloc_new (w.alloc (.cells #[.bool b, .slice A l c, .int .i64 0] 79)) (.cells #[.bool (!b), .slice A l c, .int .i64 0] 79)
  rw [show (w.alloc (.cells #[.bool b, .slice A l c, .int .i64 0] 79)).heap.size = w.heap.size + 1 by simp] at hg
  have hbw : Below w.heap.size w ((w.alloc (.cells #[.bool b, .slice A l c, .int .i64 0] 79)).alloc (.cells #[.bool (!b), .slice A l c, .int .i64 0] 79)) := ((Below.refl _ w).alloc (Nat.le_refl _) _).alloc (by simp) _
  refine bodyPost_ret (results_cell_row rfl _ _ (w.heap.size + 1) 79 #[.bool (!b), (.slice A l c), .int .i64 0] (0, 0) _ (by rfl) hg Try.underlying79 rfl (by kernel_rfl)) rfl ?_
  refine ⟨_, rfl, ?_, hbw⟩
  rw [show -z = signed (!b) z.natAbs by
    have h := HS.out
    cases b
    · have h : (z.natAbs : Int) = z := h
      show -z = -(z.natAbs : Int)
      rw [h]
    · have h : -(z.natAbs : Int) = z := h
      show -z = (z.natAbs : Int)
      omega]
  exact NumAt.of HLEN.out HC.out ((hlim.below hbw).more hbw.size) (hown.below hbw)
set_option maxRecDepth 100000 in
theorem num_int (b : Bool) (A : Option Addr) (l c : Nat) (xs : List Nat) (w : World) (h1 : Lim w w.heap.size A xs) (e1 : l = xs.length) (hc : l ≤ c) (hl : l ≤ 137438953472) :
    Calls Try.prog 111 #[.agg #[.bool b, .slice A l c]] w fun e w' => ∃ v', e = .returned v' ∧ NumAt w' v' (signed b (val xs)) ∧ Below w.heap.size w w' := by
  have E1 := Lib.hid e1
  have HC := Lib.hid hc
  have HL := Lib.hid hl
  clear e1 hc hl
  go_enter Try.func111, Try.ntmps111
  go_upto_region 1 with (fail)
  have c0 : ((w.alloc (.cells #[.bool b, .slice A l c] 36)).alloc (.cells #[.bool false, .slice none 0 0, .int .i64 0] 79)).cell? ⟨w.heap.size, 0, none⟩ = some (.bool b) := by
    rw [cell_of_row _ _ 0 #[.bool b, .slice A l c] 36 (0, 0)]
    · rfl
    · rw [Below.heap_alloc _ _ _ (by simp)]; exact heap_alloc_new w _
  have c1 : ((w.alloc (.cells #[.bool b, .slice A l c] 36)).alloc (.cells #[.bool false, .slice none 0 0, .int .i64 0] 79)).cell? ⟨w.heap.size, 1, none⟩ = some (.slice A l c) := by
    rw [cell_of_row _ _ 1 #[.bool b, .slice A l c] 36 (0, 0)]
    · rfl
    · rw [Below.heap_alloc _ _ _ (by simp)]; exact heap_alloc_new w _
  have hbx := Box3.new w (.cells #[.bool b, .slice A l c] 36) (.bool false) (.slice none 0 0) (.int .i64 0) 79
  have hbw : Below w.heap.size w ((w.alloc (.cells #[.bool b, .slice A l c] 36)).alloc (.cells #[.bool false, .slice none 0 0, .int .i64 0] 79)) := ((Below.refl _ w).alloc (Nat.le_refl _) _).alloc (by simp) _
  generalize (w.alloc (.cells #[.bool b, .slice A l c] 36)).alloc (.cells #[.bool false, .slice none 0 0, .int .i64 0] 79) = W0 at c0 c1 hbx hbw ⊢
  obtain ⟨g0, hg0⟩ : ∃ g0, w.heap.size = g0 := ⟨_, rfl⟩
  obtain ⟨g, hg⟩ : ∃ g, g0 + 1 = g := ⟨_, rfl⟩
  have HW := Lib.hid hbw
  rw [hg0] at c0 c1 hbx hbw ⊢
  rw [hg] at hbx ⊢
  have HG := Lib.hid (show w.heap.size ≤ g ∧ w.heap.size = g0 by omega)
  have r0 := later_cell c0
  have r1 := later_cell c1
  have hlim0 := (h1.below HW.out).more HW.out.size
  clear hg0 hg
  go_wp2_with fail
  refine wp_region_stages (fun w' => ∃ δ : Later Nix W0, w' = δ.world) [(false, 0), (false, 1), (false, 2), (false, 3), (true, 4)] 5 [.reads [_, _, _, _], .loud _] [_, _] (by kernel_rfl) (by kernel_rfl) rfl rfl ?_ ?_
  · exact ⟨⟨_, nix_drawn W0⟩, rfl⟩
  refine wpStages_reads ?_
  repeat (go_big_quiet_step (fail))
  refine wpQuiet_nil ?_
  refine wpStages_loud rfl ?_
  intro K hK
  go_big_op
  refine (ref_trim A l c xs (W0.drewN 1) (hlim0.drewN 1) E1.out HC.out (by have := HL.out; omega)).mono ?_
  rintro e w1 ⟨v1, rfl, ho1, hb1⟩
  have he1 : Ext Nix W0 w1 := (nix_drawn W0).later (Ext.of_below hb1)
  refine hK _ _ ⟨⟨w1, he1⟩, rfl⟩ ?_
  clear hK K
  refine wpStages_nil ?_
  have hbx1 := hbx.below he1.below hbx.lt
  have d0 := hbx1.cell0
  have d1 := hbx1.cell1
  have d2 := hbx1.cell2
  have f0 := hbx1.free
  obtain ⟨A1, c3, rfl, hc3, hlim3, _⟩ := ho1.form
  obtain ⟨m, hm⟩ : ∃ m, (limbs (val xs)).length = m := ⟨_, rfl⟩
  have HM := Lib.hid hm
  have HO := Lib.hid ho1
  rw [hm] at hc3 ⊢
  have HC3 := Lib.hid hc3
  clear hm ho1 hc3 c0 c1 r0 r1
  go_wp2_with fail
  have hst := hbx1.store (a := .bool b) (b := .slice A1 m c3) (c := .int .i64 0)
  refine bodyPost_ret (results_cell_row rfl _ _ g 79 #[.bool b, (.slice A1 m c3), .int .i64 0] (0, 0) _ (by rfl) hst Try.underlying79 rfl (by kernel_rfl)) rfl ?_
  have hbF : Below w.heap.size w w1 := HW.out.trans (he1.below.mono HW.out.size)
  have hbE := store3_below (a := .bool b) (b := .slice A1 m c3) (c := .int .i64 0) hbF HG.out.1
  refine ⟨_, rfl, ?_, hbE⟩
  have hown2 := HO.out.store3 (a := .bool b) (b := .slice A1 m c3) (c := .int .i64 0) hbx1
  obtain ⟨A9, c9, e9, _, hlim9, _⟩ := hown2.form
  injection e9 with e91 e92 e93
  subst e91
  exact NumAt.of HM.out.symm HC3.out hlim9 (by have h := hown2.mono (Nat.zero_le _); rwa [HM.out] at h)
end Go.Proofs.Ytmnfokapdipcdaa
