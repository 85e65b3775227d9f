import Derived.Test.YtonbhpadoplpkaaDiv1
import Derived.Test.YtonbhpadoplpkaaNat3
import Derived.Test.YtonbhpadoplpkaaBox
/- The package divide: trim, short, shifted, made. -/
namespace Go.Proofs.Ytonbhpadoplpkaa
open Go.RowKit Go.Deep
set_option maxHeartbeats 400000 in
theorem divide_trim (A : Option Addr) (c : Nat) (xs : List Nat) (w : World) {B : Nat} (h : Lim w B A xs) (hc : xs.length ≤ c) (_hl : xs.length ≤ 35184372088832) :
    Calls Try.prog 61 #[.slice A xs.length c] w fun e w' => e = .returned (.slice A (limbs (val xs)).length (limbs (val xs)).length) ∧ w = w' := by
  rw [← trimL_eq h.small]
  have hcI : (xs.length : Int) ≤ (c : Int) := by omega
  go_enter Try.func61, Try.ntmps61
  go_wp2
  go_loop [3] (fun v => ∃ n : Nat, n ≤ xs.length ∧ v = .int .i64 (n : Int) ∧ trimL (xs.take n) = trimL xs) (fun v => (intOf v).toNat)
  case atStart => exact ⟨xs.length, Nat.le_refl _, rfl, by simp⟩
  case round =>
    obtain ⟨n, hn, rfl, ht⟩ := hrel
    have HT := Lib.hid ht
    clear ht
    rcases n with _ | n
    · go_wp2
      go_ret
      exact ⟨by rw [← HT.out]; rfl, rfl⟩
    · obtain ⟨ad, rfl, hb, hcell⟩ := h.at_ (k := n) (by omega)
      generalize hx : xs.getD n 0 = x at *
      have HX := Lib.hid hx
      clear hx
      have hn1 : (n : Int) + 1 ≤ (xs.length : Int) := by omega
      go_wp2
      · have hx : ((x : Int) == 0) = true := by assumption
        simp only [beq_iff_eq] at hx
        refine ⟨⟨n, by omega, by go_num, ?_⟩, by simp [intOf]⟩
        rw [← HT.out, trimL_zero xs n (by omega) (by have := HX.out; omega)]
      · have hx : ((x : Int) == 0) = false := by assumption
        simp only [beq_eq_false_iff_ne] at hx
        go_ret
        have e : (trimL xs).length = n + 1 := by
          rw [← HT.out, trimL_pos xs n (by omega) (by have := HX.out; omega), List.length_take]; omega
        exact ⟨by rw [e]; rfl, rfl⟩
/-- The block of a slice. -/
def blockOf : Value → Option Nat
  | .slice (some a) _ _ => some a.block
  | .agg #[_, .slice (some a) _ _] => some a.block
  | _ => none
/-- Two values lie in two blocks. -/
def Sep (u v : Value) : Prop := ∀ a b, blockOf u = some a → blockOf v = some b → a ≠ b
theorem Sep.nil (v : Value) : Sep (.slice none 0 0) v := fun a b h _ => by cases h
theorem Sep.of_lt {A B : Addr} {l c m d : Nat} (h : A.block < B.block) : Sep (.slice (some A) l c) (.slice (some B) m d) := fun a b h1 h2 => by
  injection h1 with h1
  injection h2 with h2
  omega
theorem Sep.sub {u v u' v' : Value} (h : Sep u v) (hu : ∀ b, blockOf u' = some b → blockOf u = some b) (hv : ∀ b, blockOf v' = some b → blockOf v = some b) : Sep u' v' := fun a b h1 h2 => h a b (hu a h1) (hv b h2)
/-- A slice of limbs, not trimmed, in memory since base: this is its number. -/
def Part (w : World) (base : Nat) (v : Value) (n : Nat) : Prop := ∃ A c xs, v = .slice A xs.length c ∧ xs.length ≤ c ∧ xs.length ≤ 1099511627776 ∧ Lim w w.heap.size A xs ∧ Fresh w base A c ∧ val xs = n
theorem Part.below {w w' : World} {base : Nat} {v : Value} {n : Nat} (h : Part w base v n) (hb : Below w.heap.size w w') : Part w' base v n := by
  obtain ⟨A, c, xs, h1, h2, h3, h4, h5, h6⟩ := h
  exact ⟨A, c, xs, h1, h2, h3, (h4.below hb).more hb.size, h5.below hb, h6⟩
theorem Part.stay {w w' : World} {base : Nat} {v : Value} {n : Nat} (h : Part w base v n) (hb : Below w.heap.size w w') : Part w' base v n := h.below hb
theorem Part.row {w : World} {base g : Nat} {xs : List Nat} (h : Row w g xs) (hf : Fresh w base (some ⟨g, 0, none⟩) xs.length) (hl : xs.length ≤ 1099511627776) : Part w base (.slice (some ⟨g, 0, none⟩) xs.length xs.length) (val xs) :=
  ⟨_, _, xs, rfl, Nat.le_refl _, hl, h.lim h.lt, hf, rfl⟩
theorem Part.one (W : World) (r : Nat) (hr : r < W64) : Part (W.alloc (.cells #[.int .u64 (r : Int)] 53)) W.heap.size (.slice (some ⟨W.heap.size, 0, none⟩) 1 1) r := by
  have ho : Own (W.alloc (.cells #[.int .u64 (r : Int)] 53)) W.heap.size (.slice (some ⟨W.heap.size, 0, none⟩) 1 1) [r] :=
    ⟨Small.one hr, rfl, .inr ⟨W.heap.size, 1, _, rfl, Nat.le_refl _, heap_alloc_new W _, Nat.le_refl _, by simp only [maxLen]; omega, rfl, rfl⟩⟩
  obtain ⟨A, c, e, hc, hlim, _⟩ := ho.form
  injection e with e1 e2 e3
  subst e1
  exact ⟨_, 1, [r], rfl, by simp, by simp, hlim, .inr ⟨_, _, rfl, Nat.le_refl _, heap_alloc_new W _, by simp⟩, by simp [val]⟩
theorem Part.since {w : World} {base base' : Nat} {v : Value} {n : Nat} (h : Part w base v n) (hb : base' ≤ base) : Part w base' v n := by
  obtain ⟨A, c, xs, h1, h2, h3, h4, h5, h6⟩ := h
  exact ⟨A, c, xs, h1, h2, h3, h4, h5.since hb, h6⟩
theorem Part.nil (w : World) (base : Nat) : Part w base (.slice none 0 0) 0 := ⟨none, 0, [], rfl, by simp, by simp, Lim.nil _ _ _, .inl ⟨rfl, rfl⟩, rfl⟩
set_option maxHeartbeats 800000 in
set_option maxRecDepth 100000 in
theorem divide_short (A1 : Option Addr) (c1 : Nat) (xs : List Nat) (d : Nat) (w : World) {B : Nat} (hB : B ≤ w.heap.size) (h1 : Lim w B A1 xs) (hl : xs.length ≤ 1099511627776) (hd : d < W64) (hd0 : 0 < d) :
    Calls Try.prog 58 #[.slice A1 xs.length c1, .int .u64 (d : Int)] w fun e w' => ∃ u v, e = .returned (.tuple #[u, v]) ∧ Part w' w.heap.size u (val xs / d) ∧ Part w' w.heap.size v (val xs % d) ∧ Sep u v ∧ Below w.heap.size w w' := by
  have hmk := make_limbs xs.length (by omega)
  go_enter Try.func58, Try.ntmps58
  go_wp2_with fail
  go_loopw [7, 8] (fun t7 t8 wr => ∃ (k r : Nat) (os : List Nat), k ≤ xs.length ∧ r < d ∧ os.length = xs.length ∧ t7 = .int .u64 (r : Int) ∧ t8 = .int .i64 ((k : Int) - 1) ∧ Row wr w.heap.size os ∧ Fresh wr w.heap.size (some ⟨w.heap.size, 0, none⟩) xs.length ∧ Below w.heap.size w wr ∧ val (xs.drop k) = d * val (os.drop k) + r) (fun _ t8 _ => (intOf t8 + 1).toNat)
  case atStart =>
    exact ⟨xs.length, 0, List.replicate xs.length 0, by omega, hd0, by simp, rfl, rfl, Row.made _ _, Fresh.made _ _, (Below.refl _ _).alloc (Nat.le_refl _) _, by simp⟩
  case round =>
    obtain ⟨k, r, os, hk, hr, ho, rfl, rfl, hrow, hfr, hbel, hval⟩ := hrel
    have HV := Lib.hid hval
    have HO := Lib.hid ho
    clear hval ho
    rcases k with _ | k
    · have hq : val os = val xs / d ∧ r = val xs % d := by
        have h := HV.out
        rw [List.drop_zero, List.drop_zero] at h
        rw [h, Nat.mul_add_div hd0, Nat.mul_add_mod, Nat.div_eq_of_lt hr, Nat.mod_eq_of_lt hr]
        exact ⟨rfl, rfl⟩
      have HQ := Lib.hid hq
      clear hq
      go_wp2_with fail
      go_ret2
      have hr2 : r < W64 := by omega
      have hb1 : Below wr.heap.size wr (wr.alloc (.cells #[.int .u64 (r : Int)] 53)) := (Below.refl _ _).alloc (Nat.le_refl _) _
      refine ⟨_, _, rfl, ?_, ?_, Sep.of_lt hrow.lt, hbel.trans (hb1.mono hbel.size)⟩
      · have h := (Part.row hrow (by rw [HO.out]; exact hfr) (by rw [HO.out]; omega)).below hb1
        rw [HO.out, HQ.out.1] at h
        exact h
      · rw [← HQ.out.2]
        exact (Part.one wr r hr2).since hbel.size
    · obtain ⟨ad, rfl, hb, hcell⟩ := (h1.below (hbel.mono hB)).at_ (k := k) (by omega)
      obtain ⟨x, hx⟩ : ∃ x, xs.getD k 0 = x := ⟨_, rfl⟩
      have hxs : x < W64 := hx ▸ h1.small.getD k
      rw [hx] at hcell
      have hdl := digit_lt hr hxs
      have hml : (r * W64 + x) % d < d := Nat.mod_lt _ hd0
      have h2 := Nat.div_add_mod (r * W64 + x) d
      have hdiv := bits_div64 r x d hxs hd hr
      generalize (r * W64 + x) / d = q at *
      generalize (r * W64 + x) % d = t at *
      have hstep : val (xs.drop k) = d * val ((os.set k q).drop k) + t := by
        have hV := HV.out
        rw [val_drop_step xs k (by omega), hx, hV, val_drop_set os k _ (by rw [HO.out]; omega)]
        generalize val (os.drop (k + 1)) = v at *
        grind
      have HS := Lib.hid hstep
      have HL := Lib.hid (show (os.set k q).length = xs.length by rw [List.length_set, HO.out])
      have hcg := hrow.cell (k := k) (by rw [HO.out]; omega)
      have hfg := hrow.free k
      have HK := Lib.hid (show k < os.length by rw [HO.out]; omega)
      have HDIV := Lib.hid hdiv
      have e1 : ((k + 1 : Nat) : Int) - 1 = (k : Int) := by omega
      rw [e1]
      clear e1 hstep hx h2 hdiv
      go_wp2_with fail
      refine (HDIV.out _).mono ?_
      rintro e w1 ⟨rfl, n, rfl⟩
      go_wp2_with fail
      exact ⟨⟨k, _, _, by omega, hml, HL.out, rfl, rfl, (hrow.drewN n).set HK.out hdl, (hfr.below (below_drewN (Below.refl _ _) n)).set _ _ _, (below_drewN hbel n).setCell (p := ⟨w.heap.size, k, none⟩) (Nat.le_refl _) _, HS.out⟩, by simp [intOf]⟩
theorem shift_state {W T P d t x low a b : Nat} (h : d + W * t = x * T + low) (hV : a + P * low = b * T) : a + P * d + P * W * t = (b + P * x) * T := by
  have h2 : P * (d + W * t) = P * (x * T + low) := by rw [h]
  grind
theorem val_take_two (os : List Nat) (i d t : Nat) (h : i + 1 < os.length) : val (((os.set i d).set (i + 1) t).take (i + 1 + 1)) = val (os.take i) + W64 ^ i * d + W64 ^ i * W64 * t := by
  rw [val_take_set _ _ _ (by rw [List.length_set]; omega), val_take_set _ _ _ (by omega), Nat.pow_succ]
set_option maxHeartbeats 1600000 in
set_option maxRecDepth 100000 in
theorem divide_shifted (A1 : Option Addr) (c1 : Nat) (xs : List Nat) (s : Nat) (w : World) {B : Nat} (hB : B ≤ w.heap.size) (h1 : Lim w B A1 xs) (hl : xs.length ≤ 1099511627776) (hs : s < 64) :
    Calls Try.prog 73 #[.slice A1 xs.length c1, .int .i64 (s : Int)] w fun e w' => ∃ g os, e = .returned (.slice (some ⟨g, 0, none⟩) (xs.length + 1) (xs.length + 1)) ∧ (w.heap.size ≤ g ∧ g < w'.heap.size) ∧ os.length = xs.length + 1 ∧ Row w' g os ∧ Fresh w' w.heap.size (some ⟨g, 0, none⟩) (xs.length + 1) ∧ val os = val xs * 2 ^ s ∧ Below w.heap.size w w' := by
  have hmk := make_limbs (xs.length + 1) (by omega)
  rw [Int.natCast_add, Int.natCast_one] at hmk
  have hsI : (s : Int) < 64 := by omega
  have hsJ : (63 : Int) - (s : Int) = ((63 - s : Nat) : Int) := by omega
  have hlI : (xs.length : Int) ≤ 1099511627776 := by omega
  have HL := Lib.hid hl
  have HS0 := Lib.hid hs
  clear hl
  go_enter Try.func73, Try.ntmps73
  go_wp2_with fail
  go_loopw [14] (fun t14 wr => ∃ (i : Nat) (os : List Nat), i ≤ xs.length ∧ t14 = .int .i64 (i : Int) ∧ Hid (os.length = xs.length + 1) ∧ Hid (Row wr w.heap.size os) ∧ Hid (Fresh wr w.heap.size (some ⟨w.heap.size, 0, none⟩) (xs.length + 1)) ∧ Hid (Below w.heap.size w wr) ∧ Hid (os.getD i 0 < 2 ^ s) ∧ Hid (val (os.take (i + 1)) = val (xs.take i) * 2 ^ s)) (fun t14 _ => xs.length - (intOf t14).toNat)
  case atStart =>
    exact ⟨0, List.replicate (xs.length + 1) 0, by omega, rfl, Lib.hid (by simp), Lib.hid (Row.made _ _), Lib.hid (Fresh.made _ _), Lib.hid ((Below.refl _ _).alloc (Nat.le_refl _) _), Lib.hid (by have := Nat.pow_pos (n := s) (show 0 < 2 by omega); simpa using this), Lib.hid (by rw [List.take_zero, val_nil, Nat.zero_mul]; simp [val])⟩
  case round =>
    obtain ⟨i, os, hi, rfl, HO, HROW, HF, HB, HLOW, HV⟩ := hrel
    by_cases hlt : i < xs.length
    · obtain ⟨ad, rfl, hb, hcell⟩ := (h1.below (HB.out.mono hB)).at_ (k := i) hlt
      obtain ⟨x, hx⟩ : ∃ x, xs.getD i 0 = x := ⟨_, rfl⟩
      have hxs : x < W64 := hx ▸ h1.small.getD i
      rw [hx] at hcell
      obtain ⟨low, hlow⟩ : ∃ l, os.getD i 0 = l := ⟨_, rfl⟩
      have hlw := HLOW.out
      rw [hlow] at hlw
      have hpow : 2 ^ s ≤ W64 := by rw [W64_two]; exact Nat.pow_le_pow_right (by omega) (by omega)
      obtain ⟨hd1, hd2, hd3, hd4⟩ := shl_step hxs hs hlw
      have e1 : bits .or .u64 (low : Int) (IntKind.u64.wrap ((x : Int) * 2 ^ s)) = ((x * 2 ^ s % W64 + low : Nat) : Int) := by
        have e : (x : Int) * 2 ^ s = ((x * 2 ^ s : Nat) : Int) := by simp
        rw [e, wrap_u64_nat, u64_or_nat _ _ (by rw [← W64_eq]; omega) (by rw [← W64_eq]; exact Nat.mod_lt _ W64_pos), Nat.or_comm, hd4]
      have e2 : (x : Int) / 2 / 2 ^ (63 - s) = ((x / 2 ^ (64 - s) : Nat) : Int) := by
        rw [show 64 - s = 63 - s + 1 by omega, Nat.pow_succ, Nat.mul_comm, ← Nat.div_div_eq_div_mul]; simp
      have hcl := HROW.out.cell (k := i) (by rw [HO.out]; omega)
      have hfl := HROW.out.free i
      have hfl2 := HROW.out.free (i + 1)
      rw [hlow] at hcl
      have HST := Lib.hid (shift_state (P := W64 ^ i) (b := val (xs.take i)) (a := val (os.take i)) hd3 (by
        have h := HV.out
        rw [val_take_step os, hlow] at h
        exact h))
      have HD := Lib.hid (And.intro hd1 hd2)
      have HX := Lib.hid (And.intro hx hlow)
      obtain ⟨d, hd⟩ : ∃ d, x * 2 ^ s % W64 + low = d := ⟨_, rfl⟩
      obtain ⟨t, ht⟩ : ∃ t, x / 2 ^ (64 - s) = t := ⟨_, rfl⟩
      rw [hd] at e1 HST HD
      rw [ht] at e2 HST HD
      have hiI : (i : Int) < (xs.length : Int) := by omega
      have r1 := later_cell hcl
      clear hd1 hd2 hd3 hd4 hx hlow hlw hpow hd ht hlt hi
      go_upto_region 5 with (fail)
      go_region_with (fail)
      obtain ⟨W5, hW5⟩ : ∃ W, (wr.setCell ⟨w.heap.size, i, none⟩ (.int .u64 (d : Int))).drew = W := ⟨_, rfl⟩
      have HROW5 := Lib.hid (show Row W5 w.heap.size (os.set i d) by rw [← hW5]; exact ((HROW.out.set (by rw [HO.out]; omega) HD.out.1).drewN 1))
      have HF5 := Lib.hid (show Fresh W5 w.heap.size (some ⟨w.heap.size, 0, none⟩) (xs.length + 1) by rw [← hW5]; exact (HF.out.set w.heap.size i (.int .u64 (d : Int))).below (below_drewN (Below.refl _ _) 1))
      have HB5 := Lib.hid (show Below w.heap.size w W5 by rw [← hW5]; exact below_drewN (HB.out.setCell (p := ⟨w.heap.size, i, none⟩) (Nat.le_refl _) _) 1)
      rw [hW5]
      clear hW5 r1 hfl hfl2 hcl hcell
      have hf2 := HROW5.out.free (i + 1)
      have HTW := Lib.hid (show t < W64 from Nat.lt_of_lt_of_le HD.out.2 (by rw [W64_two]; exact Nat.pow_le_pow_right (by omega) (by have := HS0.out; omega)))
      have hc2 := HROW5.out.cell (k := i + 1) (by rw [List.length_set, HO.out]; omega)
      have HROW6 := Lib.hid (HROW5.out.set (k := i + 1) (x := t) (by rw [List.length_set, HO.out]; omega) HTW.out)
      have HF6 := Lib.hid (HF5.out.set w.heap.size (i + 1) (.int .u64 (t : Int)))
      have HB6 := Lib.hid (HB5.out.setCell (p := ⟨w.heap.size, i + 1, none⟩) (Nat.le_refl _) (.int .u64 (t : Int)))
      have HL6 := Lib.hid (show ((os.set i d).set (i + 1) t).length = xs.length + 1 by rw [List.length_set, List.length_set, HO.out])
      go_wp2_with fail
      refine ⟨⟨i + 1, _, by omega, by go_num, HL6, HROW6, HF6, HB6, Lib.hid ?_, Lib.hid ?_⟩, by simp [intOf]; omega⟩
      · rw [List.getD_eq_getElem?_getD, List.getElem?_set_self (by rw [List.length_set, HO.out]; omega)]; exact HD.out.2
      · rw [val_take_two _ _ _ _ (by rw [HO.out]; omega), val_take_step xs, HX.out.1]
        exact HST.out
    · obtain rfl : i = xs.length := by omega
      have HFIN := Lib.hid (show val os = val xs * 2 ^ s by
        have h := HV.out
        rwa [List.take_of_length_le (by rw [HO.out]; omega), List.take_of_length_le (Nat.le_refl _)] at h)
      go_wp2_with fail
      go_ret
      exact ⟨w.heap.size, os, rfl, ⟨Nat.le_refl _, HROW.out.lt⟩, HO.out, HROW.out, HF.out, HFIN.out, HB.out⟩
theorem part_raw {neg : Bool} {n : Nat} (h : n ≠ 0) : rawOf (signed neg n) = (neg, limbs n) := by
  unfold rawOf
  rw [signed_natAbs]
  cases neg <;> simp [signed] <;> omega
theorem part_zero (neg : Bool) : rawOf (signed neg 0) = (false, []) := by
  unfold rawOf
  rw [signed_natAbs, limbs_zero]
  cases neg <;> simp [signed]
set_option maxRecDepth 100000 in
theorem divide_made (neg : Bool) (v : Value) (n base : Nat) (w : World) (h : Part w base v n) :
    Calls Try.prog 38 #[.bool neg, v] w fun e w' => ∃ u, e = .returned u ∧ RawAt w' base u (rawOf (signed neg n)) ∧ (∀ b, blockOf u = some b → blockOf v = some b) ∧ Below w.heap.size w w' := by
  obtain ⟨A, c, xs, rfl, hc, hl, hlim, hf, hv⟩ := h
  have HV := Lib.hid hv
  have HL := Lib.hid hl
  have HLIM := Lib.hid hlim
  have HF := Lib.hid hf
  have HC := Lib.hid hc
  clear hv hl hlim hf hc
  go_enter Try.func38, Try.ntmps38
  go_wp2_with fail
  obtain ⟨W0, g, hW, hg, bx, hbw, -⟩ := box_new w (.bool false) (.slice none 0 0)
  have hb0 : Below w.heap.size w W0 := by rw [hg]; exact hbw
  have HB0 := Lib.hid hb0
  have HL0 := Lib.hid ((HLIM.out.below hb0).more hb0.size)
  have HF0 := Lib.hid (HF.out.below hb0)
  rw [hW, hg]
  have HG := Lib.hid (show w.heap.size ≤ g by omega)
  clear hW hg hbw hb0
  refine (divide_trim _ _ _ _ HL0.out HC.out (by have := HL.out; omega)).mono ?_
  rintro e w1 ⟨rfl, rfl⟩
  have hlc := lc_val HLIM.out.small
  have ht := HL0.out.trim
  rw [HV.out] at ht hlc ⊢
  obtain ⟨m, hm⟩ : ∃ m, (limbs n).length = m := ⟨_, rfl⟩
  have HM := Lib.hid hm
  rw [hm]
  have hmc : m ≤ c := by have := HC.out; have h2 : (limbs n).length ≤ xs.length := hlc; omega
  have HT := Lib.hid ht
  have HMC := Lib.hid hmc
  have a0 := bx.cell0
  have a1 := bx.cell1
  have fr := bx.free
  clear ht hlc hm hmc
  by_cases h0 : n = 0
  · obtain rfl : m = 0 := by rw [← HM.out, h0, limbs_zero]; rfl
    go_wp2_with fail
    refine bodyPost_ret (results_cell_row rfl _ _ g 24 #[.bool false, (.slice none 0 0)] (0, 0) _ (by rfl) bx.store Try.underlying24 rfl (by kernel_rfl)) rfl ?_
    subst h0
    rw [part_zero]
    exact ⟨_, rfl, RawAt.zero _ _, (fun b h => by cases h), store2_below HB0.out HG.out⟩
  · have h1 : ((m : Int) == 0) = false := by
      rw [beq_eq_false_iff_ne]
      intro h
      have h2 : (limbs n).length = 0 := by rw [HM.out]; omega
      exact h0 (limbs_eq_nil.1 (List.eq_nil_of_length_eq_zero h2))
    have HN := Lib.hid h0
    clear h0
    go_wp2_with fail
    refine bodyPost_ret (results_cell_row rfl _ _ g 24 #[.bool neg, (.slice A m m)] (0, 0) _ (by rfl) bx.store Try.underlying24 rfl (by kernel_rfl)) rfl ?_
    rw [part_raw HN.out]
    have hraw : RawAt W0 base (.agg #[.bool neg, .slice A m m]) (neg, limbs n) := ⟨A, m, m, rfl, HM.out.symm, Nat.le_refl _, HT.out, HF0.out.cut HMC.out⟩
    exact ⟨_, rfl, hraw.store2 bx.nums _ _, (fun b h => by cases A <;> exact h), store2_below HB0.out HG.out⟩
end Go.Proofs.Ytonbhpadoplpkaa
