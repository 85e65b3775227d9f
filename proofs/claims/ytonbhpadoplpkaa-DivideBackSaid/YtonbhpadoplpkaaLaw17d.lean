import Derived.Test.YtonbhpadoplpkaaLaw17c
import Derived.Test.YtonbhpadoplpkaaLent
import Derived.Test.YtonbhpadoplpkaaPlan3
/- The law of layer 17: DivideBack. -/
namespace Go.Proofs.Ytonbhpadoplpkaa
open Go.RowKit Go.Deep
set_option maxRecDepth 100000 in
theorem kit_copy (A : Option Addr) (l c : Nat) (xs : List Nat) (w : World) (h1 : Lim w w.heap.size A xs) (e1 : l = xs.length) (hl : l ≤ 1099511627776) :
    Calls Try.prog 35 #[.slice A l c] w fun e w' => ∃ A' c', e = .returned (.slice A' l c') ∧ l ≤ c' ∧ Lim w' w'.heap.size A' xs ∧ Fresh w' w.heap.size A' c' ∧ Below w.heap.size w w' := by
  have H1 := Lib.hid h1
  have E1 := Lib.hid e1
  have HLE := Lib.hid (show ([] : List Nat).length + xs.length ≤ 17592186044416 by simp; omega)
  clear h1 e1 hl
  go_enter Try.func35, Try.ntmps35
  go_wp2_with (at_builtin; refine append_lim (w0 := w) w.heap.size rfl _ _ rfl _ [] A l c xs (by rfl) (by rfl) E1.out H1.out (Own.nil _ _) (Below.refl _ _) (Nat.le_refl _) HLE.out fun v1 w1 hown hbel _ _ => ?_)
  obtain ⟨A1, c1, hv, hc, hlim, _⟩ := hown.form
  rw [List.nil_append] at hv hc hlim
  subst hv
  have HF := Lib.hid hown.fresh
  have HL := Lib.hid (And.intro hc hlim)
  have HB := Lib.hid hbel
  clear hown hc hlim hbel
  go_wp2_with fail
  go_ret
  rw [E1.out]
  exact ⟨A1, c1, rfl, HL.out.1, HL.out.2, HF.out, HB.out⟩
set_option maxRecDepth 100000 in
theorem kit_copyInt (v : Value) (x : Raw) (w : World) (hv : RawV w v x) (hl : x.2.length ≤ 1099511627776) :
    Calls Try.prog 11 #[v] w fun e w' => ∃ u, e = .returned u ∧ RawAt w' w.heap.size u x ∧ Below w.heap.size w w' := by
  obtain ⟨b1, A1, l1, c1, rfl, HV⟩ := hv.open
  have HL := Lib.hid hl
  have HP := Lib.hid HV.out.parts
  clear hv hl
  go_enter Try.func11, Try.ntmps11
  go_wp2_with fail
  obtain ⟨W0, g, r, hW, hg, hr, bx, br, G_g, S_W0, hb⟩ := boxH2 w (.bool b1) (.slice A1 l1 c1) (.bool false) (.slice none 0 0)
  rw [hW, hr, hg]
  replace HV := Lib.hid (HV.out.stay hb)
  have B_W0 := Lib.hid (show Since w W0 from hb)
  clear hW hg hr hb
  have a0 := bx.out.cell0
  have a1 := bx.out.cell1
  go_wp2_with fail
  refine (kit_copy A1 l1 c1 x.2 W0 HV.out.parts.2.2.2 HP.out.2.1 (by have := HP.out.2.1; have := HL.out; omega)).mono ?_
  rintro e w1 ⟨A, c, rfl, hc, hlim, hf, hb⟩
  have HN := Lib.hid (show RawAt w1 W0.heap.size (.agg #[.bool b1, .slice A l1 c]) x from ⟨A, l1, c, by rw [HP.out.1], HP.out.2.1, hc, hlim, hf⟩)
  replace bx := Lib.hid (bx.out.stay hb)
  replace br := Lib.hid (br.out.stay hb)
  replace B_W0 := Lib.hid (B_W0.out.stay hb)
  clear hc hlim hf hb a0 a1
  have a0 := bx.out.cell0
  have a1 := bx.out.cell1
  have fr := bx.out.free
  go_upto_region 2 with (fail)
  obtain ⟨W1, hW1, bx', p⟩ := bx.out.write1 (.slice A l1 c)
  rw [hW1]
  have HGG := Lib.hid (show w.heap.size ≤ g ∧ w.heap.size ≤ r ∧ r ≠ g ∧ w.heap.size ≤ W0.heap.size by have := G_g.out; have := S_W0.out; omega)
  replace HN := Lib.hid (HN.out.put p)
  replace br := Lib.hid (br.out.put p HGG.out.2.2.1)
  replace B_W0 := Lib.hid (B_W0.out.put p HGG.out.1)
  clear hW1 p bx a0 a1 fr
  have a0 := bx'.out.cell0
  have a1 := bx'.out.cell1
  have k0 := br.out.cell0
  have k1 := br.out.cell1
  have fr := br.out.free
  go_wp2_with fail
  refine bodyPost_ret (results_cell_row rfl _ _ r 24 #[.bool b1, (.slice A l1 c)] (0, 0) _ (by rfl) br.out.store Try.underlying24 rfl (by kernel_rfl)) rfl ?_
  obtain ⟨W2, hW2, br', p⟩ := br.out.write (.bool b1) (.slice A l1 c)
  rw [hW2]
  exact ⟨_, rfl, (HN.out.put p).since HGG.out.2.2.2, B_W0.out.put p HGG.out.2.1⟩
/-- A variable's box, that holds a record once it is stored. -/
def BoxQ (st : Prop) (w : World) (base : Nat) (v : Value) (q : Raw) : Prop := ∃ (g : Nat) (b : Bool) (A : Option Addr) (l c : Nat), v = .pointer (some ⟨g, 0, none⟩) ∧ base ≤ g ∧ Box2 w g (.bool b) (.slice A l c) ∧ (st → RawV w (.agg #[.bool b, .slice A l c]) q)
theorem BoxQ.stay {st st' : Prop} {w w' : World} {base : Nat} {v : Value} {q : Raw} (h : BoxQ st w base v q) (hs : st' → st) (hb : Below w.heap.size w w') : BoxQ st' w' base v q := by
  obtain ⟨g, b, A, l, c, h1, h0, h2, h3⟩ := h
  exact ⟨g, b, A, l, c, h1, h0, h2.stay hb, fun e => (h3 (hs e)).stay hb⟩
theorem BoxQ.same {st st' : Prop} {w : World} {base : Nat} {v : Value} {q : Raw} (h : BoxQ st w base v q) (hs : st' → st) : BoxQ st' w base v q := by
  obtain ⟨g, b, A, l, c, h1, h0, h2, h3⟩ := h
  exact ⟨g, b, A, l, c, h1, h0, h2, fun e => h3 (hs e)⟩
theorem BoxQ.put {st st' : Prop} {w w' : World} {base k : Nat} {v : Value} {q : Raw} (h : BoxQ st w base v q) (hs : st' → st) (p : Put k w w') (hne : v ≠ .pointer (some ⟨k, 0, none⟩)) : BoxQ st' w' base v q := by
  obtain ⟨g, b, A, l, c, h1, h0, h2, h3⟩ := h
  exact ⟨g, b, A, l, c, h1, h0, h2.put p (fun e => hne (by rw [h1, e])), fun e => (h3 (hs e)).put p⟩
theorem BoxQ.new {st : Prop} {w : World} {base : Nat} {q : Raw} (hs : ¬ st) (hb : base ≤ w.heap.size) : BoxQ st (w.alloc (.cells #[.bool false, .slice none 0 0] 24)) base (.pointer (some ⟨w.heap.size, 0, none⟩)) q :=
  ⟨w.heap.size, false, none, 0, 0, rfl, hb, heap_alloc_new w _, fun e => absurd e hs⟩
theorem BoxQ.lt {st : Prop} {w : World} {base k : Nat} {q : Raw} (h : BoxQ st w base (.pointer (some ⟨k, 0, none⟩)) q) : k < w.heap.size := by
  obtain ⟨g, b, A, l, c, h1, h0, h2, h3⟩ := h
  injection h1 with h1
  injection h1 with h1
  injection h1 with h1
  subst h1
  exact h2.lt
theorem BoxQ.fresh {st : Prop} {w : World} {base : Nat} {v : Value} {q : Raw} (h : BoxQ st w base v q) : v ≠ .pointer (some ⟨w.heap.size, 0, none⟩) := by
  rintro rfl
  exact absurd h.lt (Nat.lt_irrefl _)
theorem upd_of {L : Nat → Bool} {i j : Nat} (hne : j ≠ i) (h : upd L i j = true) : L j = true := by rw [upd_ne hne] at h; exact h
theorem upd_keep {L : Nat → Bool} {i j : Nat} (h : L j = true) : upd L i j = true := by
  unfold upd
  split
  · rfl
  · exact h
/-- What a call told: two records and an errno; a record, a bool and an errno; a record and an errno. -/
def Tup2 (w : World) (v : Value) (q r : Raw) (E : Int) : Prop := ∃ a b, v = .tuple #[a, b, .int .i64 E] ∧ RawV w a q ∧ RawV w b r
def Tup1b (w : World) (v : Value) (q : Raw) (ok : Bool) (E : Int) : Prop := ∃ a, v = .tuple #[a, .bool ok, .int .i64 E] ∧ RawV w a q
def Tup1 (w : World) (v : Value) (q : Raw) (E : Int) : Prop := ∃ a, v = .tuple #[a, .int .i64 E] ∧ RawV w a q
theorem Tup2.stay {w w' : World} {v : Value} {q r : Raw} {E : Int} (h : Tup2 w v q r E) (hb : Below w.heap.size w w') : Tup2 w' v q r E := by
  obtain ⟨a, b, h1, h2, h3⟩ := h; exact ⟨a, b, h1, h2.stay hb, h3.stay hb⟩
theorem Tup2.put {w w' : World} {g : Nat} {v : Value} {q r : Raw} {E : Int} (h : Tup2 w v q r E) (p : Put g w w') : Tup2 w' v q r E := by
  obtain ⟨a, b, h1, h2, h3⟩ := h; exact ⟨a, b, h1, h2.put p, h3.put p⟩
theorem Tup1b.stay {w w' : World} {v : Value} {q : Raw} {ok : Bool} {E : Int} (h : Tup1b w v q ok E) (hb : Below w.heap.size w w') : Tup1b w' v q ok E := by
  obtain ⟨a, h1, h2⟩ := h; exact ⟨a, h1, h2.stay hb⟩
theorem Tup1b.put {w w' : World} {g : Nat} {v : Value} {q : Raw} {ok : Bool} {E : Int} (h : Tup1b w v q ok E) (p : Put g w w') : Tup1b w' v q ok E := by
  obtain ⟨a, h1, h2⟩ := h; exact ⟨a, h1, h2.put p⟩
theorem Tup1.stay {w w' : World} {v : Value} {q : Raw} {E : Int} (h : Tup1 w v q E) (hb : Below w.heap.size w w') : Tup1 w' v q E := by
  obtain ⟨a, h1, h2⟩ := h; exact ⟨a, h1, h2.stay hb⟩
theorem Tup1.put {w w' : World} {g : Nat} {v : Value} {q : Raw} {E : Int} (h : Tup1 w v q E) (p : Put g w w') : Tup1 w' v q E := by
  obtain ⟨a, h1, h2⟩ := h; exact ⟨a, h1, h2.put p⟩
section
variable {x y q r p s z m : Raw} {E Em : Int} {ok : Bool}
theorem right_rawOf {x : Int} (h : lc x.natAbs ≤ 4096) : rightInt (rawOf x) = true := by
  unfold rightInt rawOf
  by_cases h0 : x = 0
  · subst h0; simp [limbs_zero]
  · have h1 : limbs x.natAbs ≠ [] := fun e => by rw [limbs_eq_nil] at e; omega
    have h2 : (limbs x.natAbs).length ≠ 0 := fun e => h1 (List.eq_nil_of_length_eq_zero e)
    have h4 : (limbs x.natAbs).length ≤ 4096 := h
    rcases norm_limbs x.natAbs with h3 | h3
    · exact absurd h3 h1
    · simp only [decide_eq_true h4, bne_iff_ne.2 h3, bne_iff_ne.2 h2, Bool.and_self, Bool.or_true]
theorem Case17.bad2 (h : Case17 x y E q r p s z m ok Em) (hr : (rightInt x && rightInt y) = false) : E = 2 ∧ Em = 2 ∧ ok = false := by
  rcases h with ⟨X, Y, rfl, rfl, lX, lY, _⟩ | ⟨hE, _, _, _, _, _, ho, _, _, hm⟩
  · rw [right_rawOf (by omega), right_rawOf (by omega)] at hr; cases hr
  · unfold wrongE at hE
    rw [hr] at hE
    exact ⟨hE.symm, hm.trans hE.symm, ho⟩
theorem Case17.bad7 (h : Case17 x y E q r p s z m ok Em) (h1 : rightInt x = true) (h2 : rightInt y = true) (h0 : y.2.length = 0) : E = 7 ∧ Em = 7 ∧ ok = false := by
  rcases h with ⟨X, Y, rfl, rfl, lX, lY, hY, _⟩ | ⟨hE, _, _, _, _, _, ho, _, _, hm⟩
  · exact absurd (limbs_eq_nil.1 (List.eq_nil_of_length_eq_zero h0)) (by omega)
  · unfold wrongE at hE
    rw [h1, h2, Bool.and_self, if_pos rfl, if_pos h0] at hE
    exact ⟨hE.symm, hm.trans hE.symm, ho⟩
theorem Case17.good (h : Case17 x y E q r p s z m ok Em) (h1 : rightInt x = true) (h2 : rightInt y = true) (h0 : y.2.length ≠ 0) :
    ∃ X Y : Int, x = rawOf X ∧ y = rawOf Y ∧ lc X.natAbs ≤ 200 ∧ lc Y.natAbs ≤ 200 ∧ Y ≠ 0 ∧ E = 0 ∧ q = rawOf (X.fdiv Y) ∧ r = rawOf (X.fmod Y) ∧ p = rawOf (X.tdiv Y) ∧ s = rawOf (X.tmod Y) ∧ ok = decide (X.tmod Y = 0) ∧
    z = (if X.tmod Y = 0 then rawOf (X.tdiv Y) else (false, [])) ∧ m = modR X Y ∧ Em = modE Y := by
  rcases h with h | ⟨hE, hn, _⟩
  · exact h
  · unfold wrongE at hE
    rw [h1, h2, Bool.and_self, if_pos rfl, if_neg h0] at hE
    exact absurd hE.symm hn
theorem wrap_sign {a b : Int} (h : 0 ≤ a * b) : ∃ P : Int, IntKind.i64.wrap (a.sign * b.sign) = P ∧ decide (P < 0) = false := by
  rw [← Int.sign_mul]
  rcases Int.lt_or_eq_of_le h with h1 | h1
  · rw [Int.sign_eq_one_of_pos h1]; exact ⟨1, by decide, by decide⟩
  · rw [← h1]; exact ⟨0, by decide, by decide⟩
theorem fmod_side (x : Int) {y : Int} (h0 : y ≠ 0) : 0 ≤ x.fmod y * y := by
  rcases Int.lt_trichotomy y 0 with h | h | h
  · have h2 := Int.fmod_nonneg_of_pos (-x) (b := -y) (by omega)
    rw [Int.neg_fmod_neg] at h2
    exact Int.mul_nonneg_of_nonpos_of_nonpos (by omega) (by omega)
  · exact absurd h h0
  · exact Int.mul_nonneg (Int.fmod_nonneg_of_pos x h) (by omega)
theorem tmod_side (x y : Int) : 0 ≤ x.tmod y * x := by
  by_cases h : 0 ≤ x
  · exact Int.mul_nonneg (Int.tmod_nonneg y h) h
  · have h2 := Int.tmod_nonneg y (a := -x) (by omega)
    rw [Int.neg_tmod] at h2
    exact Int.mul_nonneg_of_nonpos_of_nonpos (by omega) (by omega)
theorem fmod_zero {x y : Int} (h0 : y ≠ 0) : decide (x.fmod y = 0) = decide (x.tmod y = 0) := by
  rcases floor_case x y h0 with ⟨h1, _, _, h2⟩ | ⟨_, _, h2⟩
  · have h3 := (floor_sizes h0 h1).2.1
    rw [decide_eq_false h1, decide_eq_false (by omega)]
  · rw [h2]
theorem sign_nought (a : Int) : (a.sign == 0) = decide (a = 0) := by
  by_cases h : a = 0
  · subst h; rfl
  · rw [decide_eq_false h, beq_eq_false_iff_ne]; exact fun e => h (Int.sign_eq_zero_iff_zero.1 e)
theorem rest_signs {X Y : Int} {ok : Bool} (h0 : Y ≠ 0) (hok : ok = decide (X.tmod Y = 0)) :
    ∃ sr sb ss sa P Q : Int, sgnR (rawOf (X.fmod Y)) = sr ∧ sgnR (rawOf Y) = sb ∧ sgnR (rawOf (X.tmod Y)) = ss ∧ sgnR (rawOf X) = sa ∧
      (IntKind.i64.wrap (sr * sb) = P ∧ decide (P < 0) = false ∧ IntKind.i64.wrap (ss * sa) = Q ∧ decide (Q < 0) = false ∧ (sr == 0) = ok ∧ (ss == 0) = ok) ∧ (sb == 0) = false := by
  obtain ⟨P, h1, h2⟩ := wrap_sign (fmod_side X h0)
  obtain ⟨Q, h3, h4⟩ := wrap_sign (tmod_side X Y)
  refine ⟨_, _, _, _, P, Q, sgnR_int _, sgnR_int _, sgnR_int _, sgnR_int _, ⟨h1, h2, h3, h4, ?_, ?_⟩, ?_⟩
  · rw [sign_nought, fmod_zero h0, hok]
  · rw [sign_nought, hok]
  · rw [sign_nought, decide_eq_false h0]
theorem back_lens {X Y : Int} (hX : lc X.natAbs ≤ 200) (hY : lc Y.natAbs ≤ 200) (h0 : Y ≠ 0) :
    lc X.natAbs ≤ 4096 ∧ lc Y.natAbs ≤ 4096 ∧ lc (X.fdiv Y).natAbs ≤ 4096 ∧ lc (X.fmod Y).natAbs ≤ 4096 ∧ lc (X.fdiv Y * Y).natAbs ≤ 4096 ∧ lc (X.tdiv Y).natAbs ≤ 4096 ∧ lc (X.tmod Y).natAbs ≤ 4096 ∧ lc (X.tdiv Y * Y).natAbs ≤ 4096 := by
  have up : ∀ {a n k : Nat}, a ≤ n → lc n ≤ k → lc a ≤ k := fun h hn => Nat.le_trans (lc_mono h) hn
  have ht : lc (X.tdiv Y).natAbs ≤ 200 := up (by rw [Int.natAbs_tdiv]; exact Nat.div_le_self _ _) hX
  have hm : lc (X.tmod Y).natAbs ≤ 200 := up (by rw [Int.natAbs_tmod]; exact Nat.mod_le _ _) hX
  have hr : lc (X.fmod Y).natAbs ≤ 200 := up (Nat.le_of_lt (fmod_size X h0)) hY
  have hf : lc (X.fdiv Y).natAbs ≤ 202 := by
    have h1 : (X.fdiv Y).natAbs ≤ X.natAbs + 1 := by
      have h2 : (X.tdiv Y).natAbs ≤ X.natAbs := by rw [Int.natAbs_tdiv]; exact Nat.div_le_self _ _
      rcases floor_case X Y h0 with ⟨_, _, h1, _⟩ | ⟨_, h1, _⟩ <;> rw [h1] <;> omega
    have h3 := lc_add X.natAbs 1
    have h4 : lc 1 ≤ 1 := one_len
    exact Nat.le_trans (lc_mono h1) (by omega)
  have hp : ∀ a : Int, lc a.natAbs ≤ 202 → lc (a * Y).natAbs ≤ 4096 := fun a ha => by
    rw [Int.natAbs_mul]; have := lc_mul a.natAbs Y.natAbs; omega
  exact ⟨by omega, by omega, by omega, by omega, hp _ hf, by omega, by omega, hp _ (by omega)⟩
theorem back_sums {X Y : Int} (h0 : Y ≠ 0) : X.fdiv Y * Y + X.fmod Y = X ∧ X.tdiv Y * Y + X.tmod Y = X ∧ (X.fmod Y).natAbs < Y.natAbs ∧ (X.tmod Y).natAbs < Y.natAbs := by
  refine ⟨by rw [Int.mul_comm]; exact Int.mul_fdiv_add_fmod X Y, by rw [Int.mul_comm]; exact Int.mul_tdiv_add_tmod X Y, fmod_size X h0, ?_⟩
  rw [Int.natAbs_tmod]
  exact Nat.mod_lt _ (by omega)
theorem whole_same {X Y : Int} (h0 : Y ≠ 0) (h : X.tmod Y = 0) : X.fdiv Y = X.tdiv Y := by
  rcases floor_case X Y h0 with ⟨h1, _⟩ | ⟨_, h1, _⟩
  · exact absurd h h1
  · exact h1
end
theorem sign_is {v : Value} {x : Raw} {w : World} {i : Int} (hv : RawV w v x) (e : sgnR x = i) :
    Calls Try.prog 16 #[v] w fun e w' => e = .returned (.int .i64 i) ∧ Below w.heap.size w w' := by
  subst e
  exact law17_sign v x w hv
def BackFloor (ws : World) (r0 r1 : Value) (x y : Raw) (q r : Raw) (E : Int) (s0 s1 s2 s3 s4 s5 s6 s7 s8 s9 s10 : Nat) (a0 : Act) (L : Nat → Bool) (a : Act) (w : World) : Prop :=
  ∃ v0 v1 v2 v3 v4 v5 v6 v7 v8 v9 v10 : Value, a = (((((((((((a0.put (some s0) v0).put (some s1) v1).put (some s2) v2).put (some s3) v3).put (some s4) v4).put (some s5) v5).put (some s6) v6).put (some s7) v7).put (some s8) v8).put (some s9) v9).put (some s10) v10) ∧ Since ws w ∧
    (L 0 = true → v0 = r0) ∧ (L 1 = true → RawV w v1 x) ∧ (L 2 = true → v2 = r1) ∧ (L 3 = true → RawV w v3 y) ∧ (L 4 = true → Tup2 w v4 q r E) ∧ (L 5 = true → Tup2 w v5 q r E) ∧ (L 6 = true → RawV w v6 q) ∧ (L 7 = true → RawV w v7 r) ∧ (L 8 = true → v8 = .int .i64 E) ∧ (L 9 = true → BoxQ (L 11 = true) w ws.heap.size v9 q) ∧ (L 10 = true → BoxQ (L 12 = true) w ws.heap.size v10 r) ∧ (L 9 = true → L 10 = true → v9 ≠ v10) ∧ (L 11 = true → L 9 = true) ∧ (L 12 = true → L 10 = true)
def BackTrunc (ws : World) (r0 r1 : Value) (x y : Raw) (q r : Raw) (E : Int) (s0 s1 s2 s3 s4 s5 s6 s7 s8 s9 s10 : Nat) (a0 : Act) (L : Nat → Bool) (a : Act) (w : World) : Prop :=
  ∃ v0 v1 v2 v3 v4 v5 v6 v7 v8 v9 v10 : Value, a = (((((((((((a0.put (some s0) v0).put (some s1) v1).put (some s2) v2).put (some s3) v3).put (some s4) v4).put (some s5) v5).put (some s6) v6).put (some s7) v7).put (some s8) v8).put (some s9) v9).put (some s10) v10) ∧ Since ws w ∧
    (L 0 = true → v0 = r0) ∧ (L 1 = true → RawV w v1 x) ∧ (L 2 = true → v2 = r1) ∧ (L 3 = true → RawV w v3 y) ∧ (L 4 = true → Tup2 w v4 q r E) ∧ (L 5 = true → Tup2 w v5 q r E) ∧ (L 6 = true → RawV w v6 q) ∧ (L 7 = true → RawV w v7 r) ∧ (L 8 = true → v8 = .int .i64 E) ∧ (L 9 = true → BoxQ (L 11 = true) w ws.heap.size v9 q) ∧ (L 10 = true → BoxQ (L 12 = true) w ws.heap.size v10 r) ∧ (L 9 = true → L 10 = true → v9 ≠ v10) ∧ (L 11 = true → L 9 = true) ∧ (L 12 = true → L 10 = true)
def BackExact (ws : World) (r0 r1 : Value) (x y : Raw) (q : Raw) (ok : Bool) (E : Int) (s0 s1 s2 s3 s4 s5 s6 s7 s8 s9 s11 : Nat) (a0 : Act) (L : Nat → Bool) (a : Act) (w : World) : Prop :=
  ∃ v0 v1 v2 v3 v4 v5 v6 v7 v8 v9 v11 : Value, a = (((((((((((a0.put (some s0) v0).put (some s1) v1).put (some s2) v2).put (some s3) v3).put (some s4) v4).put (some s5) v5).put (some s6) v6).put (some s7) v7).put (some s8) v8).put (some s9) v9).put (some s11) v11) ∧ Since ws w ∧
    (L 0 = true → v0 = r0) ∧ (L 1 = true → RawV w v1 x) ∧ (L 2 = true → v2 = r1) ∧ (L 3 = true → RawV w v3 y) ∧ (L 4 = true → Tup1b w v4 q ok E) ∧ (L 5 = true → Tup1b w v5 q ok E) ∧ (L 6 = true → RawV w v6 q) ∧ (L 7 = true → v7 = .bool ok) ∧ (L 8 = true → v8 = .int .i64 E) ∧ (L 9 = true → BoxQ (L 10 = true) w ws.heap.size v9 q) ∧ (L 11 = true → v11 = .bool ok) ∧ (L 10 = true → L 9 = true)
def BackMod (ws : World) (r0 r1 : Value) (x y : Raw) (q : Raw) (E : Int) (s0 s1 s2 s3 s4 s5 s6 s7 s8 : Nat) (a0 : Act) (L : Nat → Bool) (a : Act) (w : World) : Prop :=
  ∃ v0 v1 v2 v3 v4 v5 v6 v7 v8 : Value, a = (((((((((a0.put (some s0) v0).put (some s1) v1).put (some s2) v2).put (some s3) v3).put (some s4) v4).put (some s5) v5).put (some s6) v6).put (some s7) v7).put (some s8) v8) ∧ Since ws w ∧
    (L 0 = true → v0 = r0) ∧ (L 1 = true → RawV w v1 x) ∧ (L 2 = true → v2 = r1) ∧ (L 3 = true → RawV w v3 y) ∧ (L 4 = true → Tup1 w v4 q E) ∧ (L 5 = true → Tup1 w v5 q E) ∧ (L 6 = true → RawV w v6 q) ∧ (L 7 = true → v7 = .int .i64 E) ∧ (L 8 = true → BoxQ (L 9 = true) w ws.heap.size v8 q) ∧ (L 9 = true → L 8 = true)
set_option maxHeartbeats 4000000 in
set_option maxRecDepth 100000 in
theorem law17_divback (u v : Value) (x y : Raw) (w : World) (hu : RawV w u x) (hv : RawV w v y) :
    Calls Try.prog 3 #[u, v] w fun e w' => e = .returned (.bool true) ∧ Below w.heap.size w w' := by
  obtain ⟨b1, A1, l1, c1, rfl, HU⟩ := hu.open
  obtain ⟨b2, A2, l2, c2, rfl, HV⟩ := hv.open
  clear hu hv
  go_enter Try.func3, Try.ntmps3
  go_wp2_with fail
  have B := Lib.hid (show Since w w from Below.refl _ _)
  obtain ⟨W0, g, h, hW, hg, hr, bx, by_, G_g, S_W0, hb⟩ := boxH2 w (.bool b1) (.slice A1 l1 c1) (.bool b2) (.slice A2 l2 c2)
  rw [hW, hr, hg]
  replace HU := Lib.hid (HU.out.stay hb)
  replace HV := Lib.hid (HV.out.stay hb)
  replace B := Lib.hid (B.out.stay hb)
  have B_W0 := Lib.hid (show Since w W0 from hb)
  clear hW hg hr hb
  clear G_g S_W0 B_W0
  refine (law17_awake W0).mono ?_
  rintro e w1 ⟨rfl, hb⟩
  replace HU := Lib.hid (HU.out.stay hb)
  replace HV := Lib.hid (HV.out.stay hb)
  replace bx := Lib.hid (bx.out.stay hb)
  replace by_ := Lib.hid (by_.out.stay hb)
  replace B := Lib.hid (B.out.stay hb)
  clear hb
  have a0 := bx.out.cell0
  have a1 := bx.out.cell1
  have k0 := by_.out.cell0
  have k1 := by_.out.cell1
  go_wp2_with fail
  refine (law17_long _ _ x y w1 HU.out HV.out).mono ?_
  rintro e w2 ⟨rfl, hb⟩
  replace HU := Lib.hid (HU.out.stay hb)
  replace HV := Lib.hid (HV.out.stay hb)
  replace bx := Lib.hid (bx.out.stay hb)
  replace by_ := Lib.hid (by_.out.stay hb)
  replace B := Lib.hid (B.out.stay hb)
  clear hb a0 a1 k0 k1
  by_cases hlong : (decide (200 < x.2.length) || decide (200 < y.2.length)) = true
  · rw [hlong]
    clear hlong
    go_wp2_with fail
    go_ret
    exact ⟨rfl, B.out⟩
  · rw [Bool.not_eq_true] at hlong
    rw [hlong]
    have HS := Lib.hid (show x.2.length ≤ 200 ∧ y.2.length ≤ 200 by
      rw [Bool.or_eq_false_iff] at hlong
      have h1 := of_decide_eq_false hlong.1
      have h2 := of_decide_eq_false hlong.2
      omega)
    obtain ⟨E, q, r, p, s, z, m, ok, Em, hC⟩ := case17 x y (HU.out.parts.2.2.2).small (HV.out.parts.2.2.2).small HS.out.1 HS.out.2
    have HC := Lib.hid hC
    clear hlong hC
    have HLX := Lib.hid (show x.2.length ≤ 1099511627776 by have := HS.out.1; omega)
    have HLY := Lib.hid (show y.2.length ≤ 1099511627776 by have := HS.out.2; omega)
    go_upto_region 5 with (fail)
    refine wp_region_inv (BackFloor w2 (.agg #[.bool b1, .slice A1 l1 c1]) (.agg #[.bool b2, .slice A2 l2 c2]) x y q r E 22 23 24 25 26 21 27 28 29 5 6) 13 [_] (by kernel_rfl) (by kernel_rfl) rfl ?_ ?_ ?_
    · exact ⟨undef, undef, undef, undef, undef, undef, undef, undef, undef, undef, undef, (by simp only [Act.put, List.setIfInBounds_toArray, List.set_cons_succ, List.set_cons_zero]), below_drewN (Below.refl _ _) 1, (fun e => by cases e), (fun e => by cases e), (fun e => by cases e), (fun e => by cases e), (fun e => by cases e), (fun e => by cases e), (fun e => by cases e), (fun e => by cases e), (fun e => by cases e), (fun e => by cases e), (fun e => by cases e), (fun e => by cases e), (fun e => by cases e), (fun e => by cases e)⟩
    · intro i o L a1 W hi ho hL hd hJ K hK
      obtain ⟨v0, v1, v2, v3, v4, v5, v6, v7, v8, v9, v10, rfl, js, k0, k1, k2, k3, k4, k5, k6, k7, k8, k9, k10, kd, ks0, ks1⟩ := hJ
      obtain rfl | rfl | rfl | rfl | rfl | rfl | rfl | rfl | rfl | rfl | rfl | rfl | rfl : i = 0 ∨ i = 1 ∨ i = 2 ∨ i = 3 ∨ i = 4 ∨ i = 5 ∨ i = 6 ∨ i = 7 ∨ i = 8 ∨ i = 9 ∨ i = 10 ∨ i = 11 ∨ i = 12 := by omega
      all_goals obtain rfl := Option.some.inj ho
      all_goals refine ⟨rfl, ?_⟩
      all_goals simp only [Act.put, List.setIfInBounds_toArray, List.set_cons_succ, List.set_cons_zero]
      · have c0 := (bx.out.stay js).cell0
        have c1' := (bx.out.stay js).cell1
        go_big_op
        exact hK _ _ ⟨_, v1, v2, v3, v4, v5, v6, v7, v8, v9, v10, (by simp only [Act.put, List.setIfInBounds_toArray, List.set_cons_succ, List.set_cons_zero]), js, fun _ => rfl, fun e => k1 (upd_of (by decide) e), fun e => k2 (upd_of (by decide) e), fun e => k3 (upd_of (by decide) e), fun e => k4 (upd_of (by decide) e), fun e => k5 (upd_of (by decide) e), fun e => k6 (upd_of (by decide) e), fun e => k7 (upd_of (by decide) e), fun e => k8 (upd_of (by decide) e), fun e => (k9 (upd_of (by decide) e)).same (fun e2 => upd_of (by decide) e2), fun e => (k10 (upd_of (by decide) e)).same (fun e2 => upd_of (by decide) e2), fun e e2 => kd (upd_of (by decide) e) (upd_of (by decide) e2), fun e => upd_keep (ks0 (upd_of (by decide) e)), fun e => upd_keep (ks1 (upd_of (by decide) e))⟩
      · obtain rfl := k0 (hd 0 (by kernel_rfl))
        clear hd
        go_big_op
        refine (kit_copyInt _ x W (HU.out.stay js) HLX.out).mono ?_
        rintro e W' ⟨u1, rfl, hl, hb⟩
        exact hK _ _ ⟨_, u1, v2, v3, v4, v5, v6, v7, v8, v9, v10, (by simp only [Act.put, List.setIfInBounds_toArray, List.set_cons_succ, List.set_cons_zero]), js.trans (hb.mono js.size), fun e => k0 (upd_of (by decide) e), fun _ => hl.rawV, fun e => k2 (upd_of (by decide) e), fun e => (k3 (upd_of (by decide) e)).stay hb, fun e => (k4 (upd_of (by decide) e)).stay hb, fun e => (k5 (upd_of (by decide) e)).stay hb, fun e => (k6 (upd_of (by decide) e)).stay hb, fun e => (k7 (upd_of (by decide) e)).stay hb, fun e => k8 (upd_of (by decide) e), fun e => (k9 (upd_of (by decide) e)).stay (fun e2 => upd_of (by decide) e2) hb, fun e => (k10 (upd_of (by decide) e)).stay (fun e2 => upd_of (by decide) e2) hb, fun e e2 => kd (upd_of (by decide) e) (upd_of (by decide) e2), fun e => upd_keep (ks0 (upd_of (by decide) e)), fun e => upd_keep (ks1 (upd_of (by decide) e))⟩
      · have c0 := (by_.out.stay js).cell0
        have c1' := (by_.out.stay js).cell1
        go_big_op
        exact hK _ _ ⟨v0, v1, _, v3, v4, v5, v6, v7, v8, v9, v10, (by simp only [Act.put, List.setIfInBounds_toArray, List.set_cons_succ, List.set_cons_zero]), js, fun e => k0 (upd_of (by decide) e), fun e => k1 (upd_of (by decide) e), fun _ => rfl, fun e => k3 (upd_of (by decide) e), fun e => k4 (upd_of (by decide) e), fun e => k5 (upd_of (by decide) e), fun e => k6 (upd_of (by decide) e), fun e => k7 (upd_of (by decide) e), fun e => k8 (upd_of (by decide) e), fun e => (k9 (upd_of (by decide) e)).same (fun e2 => upd_of (by decide) e2), fun e => (k10 (upd_of (by decide) e)).same (fun e2 => upd_of (by decide) e2), fun e e2 => kd (upd_of (by decide) e) (upd_of (by decide) e2), fun e => upd_keep (ks0 (upd_of (by decide) e)), fun e => upd_keep (ks1 (upd_of (by decide) e))⟩
      · obtain rfl := k2 (hd 2 (by kernel_rfl))
        clear hd
        go_big_op
        refine (kit_copyInt _ y W (HV.out.stay js) HLY.out).mono ?_
        rintro e W' ⟨u1, rfl, hl, hb⟩
        exact hK _ _ ⟨v0, v1, _, u1, v4, v5, v6, v7, v8, v9, v10, (by simp only [Act.put, List.setIfInBounds_toArray, List.set_cons_succ, List.set_cons_zero]), js.trans (hb.mono js.size), fun e => k0 (upd_of (by decide) e), fun e => (k1 (upd_of (by decide) e)).stay hb, fun e => k2 (upd_of (by decide) e), fun _ => hl.rawV, fun e => (k4 (upd_of (by decide) e)).stay hb, fun e => (k5 (upd_of (by decide) e)).stay hb, fun e => (k6 (upd_of (by decide) e)).stay hb, fun e => (k7 (upd_of (by decide) e)).stay hb, fun e => k8 (upd_of (by decide) e), fun e => (k9 (upd_of (by decide) e)).stay (fun e2 => upd_of (by decide) e2) hb, fun e => (k10 (upd_of (by decide) e)).stay (fun e2 => upd_of (by decide) e2) hb, fun e e2 => kd (upd_of (by decide) e) (upd_of (by decide) e2), fun e => upd_keep (ks0 (upd_of (by decide) e)), fun e => upd_keep (ks1 (upd_of (by decide) e))⟩
      · have h1 := k1 (hd 1 (by kernel_rfl))
        have h3 := k3 (hd 3 (by kernel_rfl))
        clear hd
        go_big_op
        refine (t17_Floor HC.out (h1) (h3) HLY.out).mono ?_
        rintro e W' ⟨ra, rb, rfl, ha, hc, hb⟩
        exact hK _ _ ⟨v0, v1, v2, v3, _, v5, v6, v7, v8, v9, v10, (by simp only [Act.put, List.setIfInBounds_toArray, List.set_cons_succ, List.set_cons_zero]), js.trans (hb.mono js.size), fun e => k0 (upd_of (by decide) e), fun e => (k1 (upd_of (by decide) e)).stay hb, fun e => k2 (upd_of (by decide) e), fun e => (k3 (upd_of (by decide) e)).stay hb, fun _ => ⟨ra, rb, rfl, ha, hc⟩, fun e => (k5 (upd_of (by decide) e)).stay hb, fun e => (k6 (upd_of (by decide) e)).stay hb, fun e => (k7 (upd_of (by decide) e)).stay hb, fun e => k8 (upd_of (by decide) e), fun e => (k9 (upd_of (by decide) e)).stay (fun e2 => upd_of (by decide) e2) hb, fun e => (k10 (upd_of (by decide) e)).stay (fun e2 => upd_of (by decide) e2) hb, fun e e2 => kd (upd_of (by decide) e) (upd_of (by decide) e2), fun e => upd_keep (ks0 (upd_of (by decide) e)), fun e => upd_keep (ks1 (upd_of (by decide) e))⟩
      · have h4 := k4 (hd 4 (by kernel_rfl))
        clear hd
        go_big_op
        exact hK _ _ ⟨v0, v1, v2, v3, v4, _, v6, v7, v8, v9, v10, (by simp only [Act.put, List.setIfInBounds_toArray, List.set_cons_succ, List.set_cons_zero]), js, fun e => k0 (upd_of (by decide) e), fun e => k1 (upd_of (by decide) e), fun e => k2 (upd_of (by decide) e), fun e => k3 (upd_of (by decide) e), fun e => k4 (upd_of (by decide) e), fun _ => h4, fun e => k6 (upd_of (by decide) e), fun e => k7 (upd_of (by decide) e), fun e => k8 (upd_of (by decide) e), fun e => (k9 (upd_of (by decide) e)).same (fun e2 => upd_of (by decide) e2), fun e => (k10 (upd_of (by decide) e)).same (fun e2 => upd_of (by decide) e2), fun e e2 => kd (upd_of (by decide) e) (upd_of (by decide) e2), fun e => upd_keep (ks0 (upd_of (by decide) e)), fun e => upd_keep (ks1 (upd_of (by decide) e))⟩
      · have h5 := k5 (hd 5 (by kernel_rfl))
        have h5' := h5
        obtain ⟨ra, rb, rfl, ha, hc⟩ := h5'
        clear hd
        go_big_op
        exact hK _ _ ⟨v0, v1, v2, v3, v4, _, _, v7, v8, v9, v10, (by simp only [Act.put, List.setIfInBounds_toArray, List.set_cons_succ, List.set_cons_zero]), js, fun e => k0 (upd_of (by decide) e), fun e => k1 (upd_of (by decide) e), fun e => k2 (upd_of (by decide) e), fun e => k3 (upd_of (by decide) e), fun e => k4 (upd_of (by decide) e), fun e => k5 (upd_of (by decide) e), fun _ => ha, fun e => k7 (upd_of (by decide) e), fun e => k8 (upd_of (by decide) e), fun e => (k9 (upd_of (by decide) e)).same (fun e2 => upd_of (by decide) e2), fun e => (k10 (upd_of (by decide) e)).same (fun e2 => upd_of (by decide) e2), fun e e2 => kd (upd_of (by decide) e) (upd_of (by decide) e2), fun e => upd_keep (ks0 (upd_of (by decide) e)), fun e => upd_keep (ks1 (upd_of (by decide) e))⟩
      · have h5 := k5 (hd 5 (by kernel_rfl))
        have h5' := h5
        obtain ⟨ra, rb, rfl, ha, hc⟩ := h5'
        clear hd
        go_big_op
        exact hK _ _ ⟨v0, v1, v2, v3, v4, _, v6, _, v8, v9, v10, (by simp only [Act.put, List.setIfInBounds_toArray, List.set_cons_succ, List.set_cons_zero]), js, fun e => k0 (upd_of (by decide) e), fun e => k1 (upd_of (by decide) e), fun e => k2 (upd_of (by decide) e), fun e => k3 (upd_of (by decide) e), fun e => k4 (upd_of (by decide) e), fun e => k5 (upd_of (by decide) e), fun e => k6 (upd_of (by decide) e), fun _ => hc, fun e => k8 (upd_of (by decide) e), fun e => (k9 (upd_of (by decide) e)).same (fun e2 => upd_of (by decide) e2), fun e => (k10 (upd_of (by decide) e)).same (fun e2 => upd_of (by decide) e2), fun e e2 => kd (upd_of (by decide) e) (upd_of (by decide) e2), fun e => upd_keep (ks0 (upd_of (by decide) e)), fun e => upd_keep (ks1 (upd_of (by decide) e))⟩
      · have h5 := k5 (hd 5 (by kernel_rfl))
        have h5' := h5
        obtain ⟨ra, rb, rfl, ha, hc⟩ := h5'
        clear hd
        go_big_op
        exact hK _ _ ⟨v0, v1, v2, v3, v4, _, v6, v7, _, v9, v10, (by simp only [Act.put, List.setIfInBounds_toArray, List.set_cons_succ, List.set_cons_zero]), js, fun e => k0 (upd_of (by decide) e), fun e => k1 (upd_of (by decide) e), fun e => k2 (upd_of (by decide) e), fun e => k3 (upd_of (by decide) e), fun e => k4 (upd_of (by decide) e), fun e => k5 (upd_of (by decide) e), fun e => k6 (upd_of (by decide) e), fun e => k7 (upd_of (by decide) e), fun _ => rfl, fun e => (k9 (upd_of (by decide) e)).same (fun e2 => upd_of (by decide) e2), fun e => (k10 (upd_of (by decide) e)).same (fun e2 => upd_of (by decide) e2), fun e e2 => kd (upd_of (by decide) e) (upd_of (by decide) e2), fun e => upd_keep (ks0 (upd_of (by decide) e)), fun e => upd_keep (ks1 (upd_of (by decide) e))⟩
      · have HNS := Lib.hid (show ¬ upd L 9 11 = true from fun e => by have h := ks0 (upd_of (by decide) e); rw [hL] at h; cases h)
        clear hd hL
        go_big_op
        have hb : Below W.heap.size W (W.alloc (.cells #[.bool false, .slice none 0 0] 24)) := (Below.refl _ _).alloc (Nat.le_refl _) _
        exact hK _ _ ⟨v0, v1, v2, v3, v4, v5, v6, v7, v8, _, v10, (by simp only [Act.put, List.setIfInBounds_toArray, List.set_cons_succ, List.set_cons_zero]), js.trans (hb.mono js.size), fun e => k0 (upd_of (by decide) e), fun e => (k1 (upd_of (by decide) e)).stay hb, fun e => k2 (upd_of (by decide) e), fun e => (k3 (upd_of (by decide) e)).stay hb, fun e => (k4 (upd_of (by decide) e)).stay hb, fun e => (k5 (upd_of (by decide) e)).stay hb, fun e => (k6 (upd_of (by decide) e)).stay hb, fun e => (k7 (upd_of (by decide) e)).stay hb, fun e => k8 (upd_of (by decide) e), fun _ => BoxQ.new HNS.out js.size, fun e => (k10 (upd_of (by decide) e)).stay (fun e2 => upd_of (by decide) e2) hb, fun e e2 => (k10 (upd_of (by decide) e2)).fresh.symm, fun _ => upd_self _ _, fun e => upd_keep (ks1 (upd_of (by decide) e))⟩
      · have HNS := Lib.hid (show ¬ upd L 10 12 = true from fun e => by have h := ks1 (upd_of (by decide) e); rw [hL] at h; cases h)
        clear hd hL
        go_big_op
        have hb : Below W.heap.size W (W.alloc (.cells #[.bool false, .slice none 0 0] 24)) := (Below.refl _ _).alloc (Nat.le_refl _) _
        exact hK _ _ ⟨v0, v1, v2, v3, v4, v5, v6, v7, v8, v9, _, (by simp only [Act.put, List.setIfInBounds_toArray, List.set_cons_succ, List.set_cons_zero]), js.trans (hb.mono js.size), fun e => k0 (upd_of (by decide) e), fun e => (k1 (upd_of (by decide) e)).stay hb, fun e => k2 (upd_of (by decide) e), fun e => (k3 (upd_of (by decide) e)).stay hb, fun e => (k4 (upd_of (by decide) e)).stay hb, fun e => (k5 (upd_of (by decide) e)).stay hb, fun e => (k6 (upd_of (by decide) e)).stay hb, fun e => (k7 (upd_of (by decide) e)).stay hb, fun e => k8 (upd_of (by decide) e), fun e => (k9 (upd_of (by decide) e)).stay (fun e2 => upd_of (by decide) e2) hb, fun _ => BoxQ.new HNS.out js.size, fun e e2 => (k9 (upd_of (by decide) e)).fresh, fun e => upd_keep (ks0 (upd_of (by decide) e)), fun _ => upd_self _ _⟩
      · obtain ⟨g5, bo, Ao, lo, co, rfl, hg5, hbx, -⟩ := k9 (hd 9 (by kernel_rfl))
        have hq := k6 (hd 6 (by kernel_rfl))
        obtain ⟨bq, Aq, lq, cq, rfl, HQQ⟩ := hq.open
        have c0 := hbx.cell0
        have c1' := hbx.cell1
        have f0 := hbx.free
        have HAL0 := (hd 9 (by kernel_rfl))
        clear hd hq
        go_big_op
        clear c0 c1' f0
        obtain ⟨Wa, hWa, ba, pp⟩ := hbx.write (.bool bq) (.slice Aq lq cq)
        rw [hWa]
        exact hK _ _ ⟨v0, v1, v2, v3, v4, v5, _, v7, v8, _, v10, (by simp only [Act.put, List.setIfInBounds_toArray, List.set_cons_succ, List.set_cons_zero]), js.put pp hg5, fun e => k0 (upd_of (by decide) e), fun e => (k1 (upd_of (by decide) e)).put pp, fun e => k2 (upd_of (by decide) e), fun e => (k3 (upd_of (by decide) e)).put pp, fun e => (k4 (upd_of (by decide) e)).put pp, fun e => (k5 (upd_of (by decide) e)).put pp, fun _ => HQQ.out.put pp, fun e => (k7 (upd_of (by decide) e)).put pp, fun e => k8 (upd_of (by decide) e), fun _ => ⟨g5, bq, Aq, lq, cq, rfl, hg5, ba.out, fun _ => HQQ.out.put pp⟩, fun e => (k10 (upd_of (by decide) e)).put (fun e2 => upd_of (by decide) e2) pp ((kd HAL0 (upd_of (by decide) e)).symm), fun e e2 => kd (upd_of (by decide) e) (upd_of (by decide) e2), fun _ => upd_keep HAL0, fun e => upd_keep (ks1 (upd_of (by decide) e))⟩
      · obtain ⟨g5, bo, Ao, lo, co, rfl, hg5, hbx, -⟩ := k10 (hd 10 (by kernel_rfl))
        have hq := k7 (hd 7 (by kernel_rfl))
        obtain ⟨bq, Aq, lq, cq, rfl, HQQ⟩ := hq.open
        have c0 := hbx.cell0
        have c1' := hbx.cell1
        have f0 := hbx.free
        have HAL1 := (hd 10 (by kernel_rfl))
        clear hd hq
        go_big_op
        clear c0 c1' f0
        obtain ⟨Wa, hWa, ba, pp⟩ := hbx.write (.bool bq) (.slice Aq lq cq)
        rw [hWa]
        exact hK _ _ ⟨v0, v1, v2, v3, v4, v5, v6, _, v8, v9, _, (by simp only [Act.put, List.setIfInBounds_toArray, List.set_cons_succ, List.set_cons_zero]), js.put pp hg5, fun e => k0 (upd_of (by decide) e), fun e => (k1 (upd_of (by decide) e)).put pp, fun e => k2 (upd_of (by decide) e), fun e => (k3 (upd_of (by decide) e)).put pp, fun e => (k4 (upd_of (by decide) e)).put pp, fun e => (k5 (upd_of (by decide) e)).put pp, fun e => (k6 (upd_of (by decide) e)).put pp, fun _ => HQQ.out.put pp, fun e => k8 (upd_of (by decide) e), fun e => (k9 (upd_of (by decide) e)).put (fun e2 => upd_of (by decide) e2) pp (kd (upd_of (by decide) e) HAL1), fun _ => ⟨g5, bq, Aq, lq, cq, rfl, hg5, ba.out, fun _ => HQQ.out.put pp⟩, fun e e2 => kd (upd_of (by decide) e) (upd_of (by decide) e2), fun e => upd_keep (ks0 (upd_of (by decide) e)), fun _ => upd_keep HAL1⟩
    · intro L a1 W5 hall hJ
      obtain ⟨v0, v1, v2, v3, v4, v5, v6, v7, v8, v9, v10, rfl, js, k0, k1, k2, k3, k4, k5, k6, k7, k8, k9, k10, kd, ks0, ks1⟩ := hJ
      obtain ⟨gq, bq, Aq, lq, cq, rfl, -, xq, hq⟩ := k9 (hall 9 (by omega))
      replace hq := Lib.hid (hq (hall 11 (by omega)))
      replace xq := Lib.hid xq
      obtain ⟨gr, br, Ar, lr, cr, rfl, -, xr, hr⟩ := k10 (hall 10 (by omega))
      replace hr := Lib.hid (hr (hall 12 (by omega)))
      replace xr := Lib.hid xr
      obtain rfl := k8 (hall 8 (by omega))
      simp only [Act.put, List.setIfInBounds_toArray, List.set_cons_succ, List.set_cons_zero]
      replace HU := Lib.hid (HU.out.stay js)
      replace HV := Lib.hid (HV.out.stay js)
      replace bx := Lib.hid (bx.out.stay js)
      replace by_ := Lib.hid (by_.out.stay js)
      replace B := Lib.hid (B.out.stay js)
      clear k0 k1 k2 k3 k4 k5 k6 k7 kd ks0 ks1 hall js
      clear k9 k10 k8
      go_upto_region 6 with (fail)
      refine wp_region_inv (BackTrunc W5 (.agg #[.bool b1, .slice A1 l1 c1]) (.agg #[.bool b2, .slice A2 l2 c2]) x y p s E 31 32 33 34 35 30 36 37 38 8 9) 13 [_] (by kernel_rfl) (by kernel_rfl) rfl ?_ ?_ ?_
      · exact ⟨undef, undef, undef, undef, undef, undef, undef, undef, undef, undef, undef, (by simp only [Act.put, List.setIfInBounds_toArray, List.set_cons_succ, List.set_cons_zero]), below_drewN (Below.refl _ _) 1, (fun e => by cases e), (fun e => by cases e), (fun e => by cases e), (fun e => by cases e), (fun e => by cases e), (fun e => by cases e), (fun e => by cases e), (fun e => by cases e), (fun e => by cases e), (fun e => by cases e), (fun e => by cases e), (fun e => by cases e), (fun e => by cases e), (fun e => by cases e)⟩
      · intro i o L a1 W hi ho hL hd hJ K hK
        obtain ⟨v0, v1, v2, v3, v4, v5, v6, v7, v8, v9, v10, rfl, js, k0, k1, k2, k3, k4, k5, k6, k7, k8, k9, k10, kd, ks0, ks1⟩ := hJ
        obtain rfl | rfl | rfl | rfl | rfl | rfl | rfl | rfl | rfl | rfl | rfl | rfl | rfl : i = 0 ∨ i = 1 ∨ i = 2 ∨ i = 3 ∨ i = 4 ∨ i = 5 ∨ i = 6 ∨ i = 7 ∨ i = 8 ∨ i = 9 ∨ i = 10 ∨ i = 11 ∨ i = 12 := by omega
        all_goals obtain rfl := Option.some.inj ho
        all_goals refine ⟨rfl, ?_⟩
        all_goals simp only [Act.put, List.setIfInBounds_toArray, List.set_cons_succ, List.set_cons_zero]
        · have c0 := (bx.out.stay js).cell0
          have c1' := (bx.out.stay js).cell1
          go_big_op
          exact hK _ _ ⟨_, v1, v2, v3, v4, v5, v6, v7, v8, v9, v10, (by simp only [Act.put, List.setIfInBounds_toArray, List.set_cons_succ, List.set_cons_zero]), js, fun _ => rfl, fun e => k1 (upd_of (by decide) e), fun e => k2 (upd_of (by decide) e), fun e => k3 (upd_of (by decide) e), fun e => k4 (upd_of (by decide) e), fun e => k5 (upd_of (by decide) e), fun e => k6 (upd_of (by decide) e), fun e => k7 (upd_of (by decide) e), fun e => k8 (upd_of (by decide) e), fun e => (k9 (upd_of (by decide) e)).same (fun e2 => upd_of (by decide) e2), fun e => (k10 (upd_of (by decide) e)).same (fun e2 => upd_of (by decide) e2), fun e e2 => kd (upd_of (by decide) e) (upd_of (by decide) e2), fun e => upd_keep (ks0 (upd_of (by decide) e)), fun e => upd_keep (ks1 (upd_of (by decide) e))⟩
        · obtain rfl := k0 (hd 0 (by kernel_rfl))
          clear hd
          go_big_op
          refine (kit_copyInt _ x W (HU.out.stay js) HLX.out).mono ?_
          rintro e W' ⟨u1, rfl, hl, hb⟩
          exact hK _ _ ⟨_, u1, v2, v3, v4, v5, v6, v7, v8, v9, v10, (by simp only [Act.put, List.setIfInBounds_toArray, List.set_cons_succ, List.set_cons_zero]), js.trans (hb.mono js.size), fun e => k0 (upd_of (by decide) e), fun _ => hl.rawV, fun e => k2 (upd_of (by decide) e), fun e => (k3 (upd_of (by decide) e)).stay hb, fun e => (k4 (upd_of (by decide) e)).stay hb, fun e => (k5 (upd_of (by decide) e)).stay hb, fun e => (k6 (upd_of (by decide) e)).stay hb, fun e => (k7 (upd_of (by decide) e)).stay hb, fun e => k8 (upd_of (by decide) e), fun e => (k9 (upd_of (by decide) e)).stay (fun e2 => upd_of (by decide) e2) hb, fun e => (k10 (upd_of (by decide) e)).stay (fun e2 => upd_of (by decide) e2) hb, fun e e2 => kd (upd_of (by decide) e) (upd_of (by decide) e2), fun e => upd_keep (ks0 (upd_of (by decide) e)), fun e => upd_keep (ks1 (upd_of (by decide) e))⟩
        · have c0 := (by_.out.stay js).cell0
          have c1' := (by_.out.stay js).cell1
          go_big_op
          exact hK _ _ ⟨v0, v1, _, v3, v4, v5, v6, v7, v8, v9, v10, (by simp only [Act.put, List.setIfInBounds_toArray, List.set_cons_succ, List.set_cons_zero]), js, fun e => k0 (upd_of (by decide) e), fun e => k1 (upd_of (by decide) e), fun _ => rfl, fun e => k3 (upd_of (by decide) e), fun e => k4 (upd_of (by decide) e), fun e => k5 (upd_of (by decide) e), fun e => k6 (upd_of (by decide) e), fun e => k7 (upd_of (by decide) e), fun e => k8 (upd_of (by decide) e), fun e => (k9 (upd_of (by decide) e)).same (fun e2 => upd_of (by decide) e2), fun e => (k10 (upd_of (by decide) e)).same (fun e2 => upd_of (by decide) e2), fun e e2 => kd (upd_of (by decide) e) (upd_of (by decide) e2), fun e => upd_keep (ks0 (upd_of (by decide) e)), fun e => upd_keep (ks1 (upd_of (by decide) e))⟩
        · obtain rfl := k2 (hd 2 (by kernel_rfl))
          clear hd
          go_big_op
          refine (kit_copyInt _ y W (HV.out.stay js) HLY.out).mono ?_
          rintro e W' ⟨u1, rfl, hl, hb⟩
          exact hK _ _ ⟨v0, v1, _, u1, v4, v5, v6, v7, v8, v9, v10, (by simp only [Act.put, List.setIfInBounds_toArray, List.set_cons_succ, List.set_cons_zero]), js.trans (hb.mono js.size), fun e => k0 (upd_of (by decide) e), fun e => (k1 (upd_of (by decide) e)).stay hb, fun e => k2 (upd_of (by decide) e), fun _ => hl.rawV, fun e => (k4 (upd_of (by decide) e)).stay hb, fun e => (k5 (upd_of (by decide) e)).stay hb, fun e => (k6 (upd_of (by decide) e)).stay hb, fun e => (k7 (upd_of (by decide) e)).stay hb, fun e => k8 (upd_of (by decide) e), fun e => (k9 (upd_of (by decide) e)).stay (fun e2 => upd_of (by decide) e2) hb, fun e => (k10 (upd_of (by decide) e)).stay (fun e2 => upd_of (by decide) e2) hb, fun e e2 => kd (upd_of (by decide) e) (upd_of (by decide) e2), fun e => upd_keep (ks0 (upd_of (by decide) e)), fun e => upd_keep (ks1 (upd_of (by decide) e))⟩
        · have h1 := k1 (hd 1 (by kernel_rfl))
          have h3 := k3 (hd 3 (by kernel_rfl))
          clear hd
          go_big_op
          refine (t17_Trunc HC.out (h1) (h3) HLY.out).mono ?_
          rintro e W' ⟨ra, rb, rfl, ha, hc, hb⟩
          exact hK _ _ ⟨v0, v1, v2, v3, _, v5, v6, v7, v8, v9, v10, (by simp only [Act.put, List.setIfInBounds_toArray, List.set_cons_succ, List.set_cons_zero]), js.trans (hb.mono js.size), fun e => k0 (upd_of (by decide) e), fun e => (k1 (upd_of (by decide) e)).stay hb, fun e => k2 (upd_of (by decide) e), fun e => (k3 (upd_of (by decide) e)).stay hb, fun _ => ⟨ra, rb, rfl, ha, hc⟩, fun e => (k5 (upd_of (by decide) e)).stay hb, fun e => (k6 (upd_of (by decide) e)).stay hb, fun e => (k7 (upd_of (by decide) e)).stay hb, fun e => k8 (upd_of (by decide) e), fun e => (k9 (upd_of (by decide) e)).stay (fun e2 => upd_of (by decide) e2) hb, fun e => (k10 (upd_of (by decide) e)).stay (fun e2 => upd_of (by decide) e2) hb, fun e e2 => kd (upd_of (by decide) e) (upd_of (by decide) e2), fun e => upd_keep (ks0 (upd_of (by decide) e)), fun e => upd_keep (ks1 (upd_of (by decide) e))⟩
        · have h4 := k4 (hd 4 (by kernel_rfl))
          clear hd
          go_big_op
          exact hK _ _ ⟨v0, v1, v2, v3, v4, _, v6, v7, v8, v9, v10, (by simp only [Act.put, List.setIfInBounds_toArray, List.set_cons_succ, List.set_cons_zero]), js, fun e => k0 (upd_of (by decide) e), fun e => k1 (upd_of (by decide) e), fun e => k2 (upd_of (by decide) e), fun e => k3 (upd_of (by decide) e), fun e => k4 (upd_of (by decide) e), fun _ => h4, fun e => k6 (upd_of (by decide) e), fun e => k7 (upd_of (by decide) e), fun e => k8 (upd_of (by decide) e), fun e => (k9 (upd_of (by decide) e)).same (fun e2 => upd_of (by decide) e2), fun e => (k10 (upd_of (by decide) e)).same (fun e2 => upd_of (by decide) e2), fun e e2 => kd (upd_of (by decide) e) (upd_of (by decide) e2), fun e => upd_keep (ks0 (upd_of (by decide) e)), fun e => upd_keep (ks1 (upd_of (by decide) e))⟩
        · have h5 := k5 (hd 5 (by kernel_rfl))
          have h5' := h5
          obtain ⟨ra, rb, rfl, ha, hc⟩ := h5'
          clear hd
          go_big_op
          exact hK _ _ ⟨v0, v1, v2, v3, v4, _, _, v7, v8, v9, v10, (by simp only [Act.put, List.setIfInBounds_toArray, List.set_cons_succ, List.set_cons_zero]), js, fun e => k0 (upd_of (by decide) e), fun e => k1 (upd_of (by decide) e), fun e => k2 (upd_of (by decide) e), fun e => k3 (upd_of (by decide) e), fun e => k4 (upd_of (by decide) e), fun e => k5 (upd_of (by decide) e), fun _ => ha, fun e => k7 (upd_of (by decide) e), fun e => k8 (upd_of (by decide) e), fun e => (k9 (upd_of (by decide) e)).same (fun e2 => upd_of (by decide) e2), fun e => (k10 (upd_of (by decide) e)).same (fun e2 => upd_of (by decide) e2), fun e e2 => kd (upd_of (by decide) e) (upd_of (by decide) e2), fun e => upd_keep (ks0 (upd_of (by decide) e)), fun e => upd_keep (ks1 (upd_of (by decide) e))⟩
        · have h5 := k5 (hd 5 (by kernel_rfl))
          have h5' := h5
          obtain ⟨ra, rb, rfl, ha, hc⟩ := h5'
          clear hd
          go_big_op
          exact hK _ _ ⟨v0, v1, v2, v3, v4, _, v6, _, v8, v9, v10, (by simp only [Act.put, List.setIfInBounds_toArray, List.set_cons_succ, List.set_cons_zero]), js, fun e => k0 (upd_of (by decide) e), fun e => k1 (upd_of (by decide) e), fun e => k2 (upd_of (by decide) e), fun e => k3 (upd_of (by decide) e), fun e => k4 (upd_of (by decide) e), fun e => k5 (upd_of (by decide) e), fun e => k6 (upd_of (by decide) e), fun _ => hc, fun e => k8 (upd_of (by decide) e), fun e => (k9 (upd_of (by decide) e)).same (fun e2 => upd_of (by decide) e2), fun e => (k10 (upd_of (by decide) e)).same (fun e2 => upd_of (by decide) e2), fun e e2 => kd (upd_of (by decide) e) (upd_of (by decide) e2), fun e => upd_keep (ks0 (upd_of (by decide) e)), fun e => upd_keep (ks1 (upd_of (by decide) e))⟩
        · have h5 := k5 (hd 5 (by kernel_rfl))
          have h5' := h5
          obtain ⟨ra, rb, rfl, ha, hc⟩ := h5'
          clear hd
          go_big_op
          exact hK _ _ ⟨v0, v1, v2, v3, v4, _, v6, v7, _, v9, v10, (by simp only [Act.put, List.setIfInBounds_toArray, List.set_cons_succ, List.set_cons_zero]), js, fun e => k0 (upd_of (by decide) e), fun e => k1 (upd_of (by decide) e), fun e => k2 (upd_of (by decide) e), fun e => k3 (upd_of (by decide) e), fun e => k4 (upd_of (by decide) e), fun e => k5 (upd_of (by decide) e), fun e => k6 (upd_of (by decide) e), fun e => k7 (upd_of (by decide) e), fun _ => rfl, fun e => (k9 (upd_of (by decide) e)).same (fun e2 => upd_of (by decide) e2), fun e => (k10 (upd_of (by decide) e)).same (fun e2 => upd_of (by decide) e2), fun e e2 => kd (upd_of (by decide) e) (upd_of (by decide) e2), fun e => upd_keep (ks0 (upd_of (by decide) e)), fun e => upd_keep (ks1 (upd_of (by decide) e))⟩
        · have HNS := Lib.hid (show ¬ upd L 9 11 = true from fun e => by have h := ks0 (upd_of (by decide) e); rw [hL] at h; cases h)
          clear hd hL
          go_big_op
          have hb : Below W.heap.size W (W.alloc (.cells #[.bool false, .slice none 0 0] 24)) := (Below.refl _ _).alloc (Nat.le_refl _) _
          exact hK _ _ ⟨v0, v1, v2, v3, v4, v5, v6, v7, v8, _, v10, (by simp only [Act.put, List.setIfInBounds_toArray, List.set_cons_succ, List.set_cons_zero]), js.trans (hb.mono js.size), fun e => k0 (upd_of (by decide) e), fun e => (k1 (upd_of (by decide) e)).stay hb, fun e => k2 (upd_of (by decide) e), fun e => (k3 (upd_of (by decide) e)).stay hb, fun e => (k4 (upd_of (by decide) e)).stay hb, fun e => (k5 (upd_of (by decide) e)).stay hb, fun e => (k6 (upd_of (by decide) e)).stay hb, fun e => (k7 (upd_of (by decide) e)).stay hb, fun e => k8 (upd_of (by decide) e), fun _ => BoxQ.new HNS.out js.size, fun e => (k10 (upd_of (by decide) e)).stay (fun e2 => upd_of (by decide) e2) hb, fun e e2 => (k10 (upd_of (by decide) e2)).fresh.symm, fun _ => upd_self _ _, fun e => upd_keep (ks1 (upd_of (by decide) e))⟩
        · have HNS := Lib.hid (show ¬ upd L 10 12 = true from fun e => by have h := ks1 (upd_of (by decide) e); rw [hL] at h; cases h)
          clear hd hL
          go_big_op
          have hb : Below W.heap.size W (W.alloc (.cells #[.bool false, .slice none 0 0] 24)) := (Below.refl _ _).alloc (Nat.le_refl _) _
          exact hK _ _ ⟨v0, v1, v2, v3, v4, v5, v6, v7, v8, v9, _, (by simp only [Act.put, List.setIfInBounds_toArray, List.set_cons_succ, List.set_cons_zero]), js.trans (hb.mono js.size), fun e => k0 (upd_of (by decide) e), fun e => (k1 (upd_of (by decide) e)).stay hb, fun e => k2 (upd_of (by decide) e), fun e => (k3 (upd_of (by decide) e)).stay hb, fun e => (k4 (upd_of (by decide) e)).stay hb, fun e => (k5 (upd_of (by decide) e)).stay hb, fun e => (k6 (upd_of (by decide) e)).stay hb, fun e => (k7 (upd_of (by decide) e)).stay hb, fun e => k8 (upd_of (by decide) e), fun e => (k9 (upd_of (by decide) e)).stay (fun e2 => upd_of (by decide) e2) hb, fun _ => BoxQ.new HNS.out js.size, fun e e2 => (k9 (upd_of (by decide) e)).fresh, fun e => upd_keep (ks0 (upd_of (by decide) e)), fun _ => upd_self _ _⟩
        · obtain ⟨g5, bo, Ao, lo, co, rfl, hg5, hbx, -⟩ := k9 (hd 9 (by kernel_rfl))
          have hq := k6 (hd 6 (by kernel_rfl))
          obtain ⟨bq, Aq, lq, cq, rfl, HQQ⟩ := hq.open
          have c0 := hbx.cell0
          have c1' := hbx.cell1
          have f0 := hbx.free
          have HAL0 := (hd 9 (by kernel_rfl))
          clear hd hq
          go_big_op
          clear c0 c1' f0
          obtain ⟨Wa, hWa, ba, pp⟩ := hbx.write (.bool bq) (.slice Aq lq cq)
          rw [hWa]
          exact hK _ _ ⟨v0, v1, v2, v3, v4, v5, _, v7, v8, _, v10, (by simp only [Act.put, List.setIfInBounds_toArray, List.set_cons_succ, List.set_cons_zero]), js.put pp hg5, fun e => k0 (upd_of (by decide) e), fun e => (k1 (upd_of (by decide) e)).put pp, fun e => k2 (upd_of (by decide) e), fun e => (k3 (upd_of (by decide) e)).put pp, fun e => (k4 (upd_of (by decide) e)).put pp, fun e => (k5 (upd_of (by decide) e)).put pp, fun _ => HQQ.out.put pp, fun e => (k7 (upd_of (by decide) e)).put pp, fun e => k8 (upd_of (by decide) e), fun _ => ⟨g5, bq, Aq, lq, cq, rfl, hg5, ba.out, fun _ => HQQ.out.put pp⟩, fun e => (k10 (upd_of (by decide) e)).put (fun e2 => upd_of (by decide) e2) pp ((kd HAL0 (upd_of (by decide) e)).symm), fun e e2 => kd (upd_of (by decide) e) (upd_of (by decide) e2), fun _ => upd_keep HAL0, fun e => upd_keep (ks1 (upd_of (by decide) e))⟩
        · obtain ⟨g5, bo, Ao, lo, co, rfl, hg5, hbx, -⟩ := k10 (hd 10 (by kernel_rfl))
          have hq := k7 (hd 7 (by kernel_rfl))
          obtain ⟨bq, Aq, lq, cq, rfl, HQQ⟩ := hq.open
          have c0 := hbx.cell0
          have c1' := hbx.cell1
          have f0 := hbx.free
          have HAL1 := (hd 10 (by kernel_rfl))
          clear hd hq
          go_big_op
          clear c0 c1' f0
          obtain ⟨Wa, hWa, ba, pp⟩ := hbx.write (.bool bq) (.slice Aq lq cq)
          rw [hWa]
          exact hK _ _ ⟨v0, v1, v2, v3, v4, v5, v6, _, v8, v9, _, (by simp only [Act.put, List.setIfInBounds_toArray, List.set_cons_succ, List.set_cons_zero]), js.put pp hg5, fun e => k0 (upd_of (by decide) e), fun e => (k1 (upd_of (by decide) e)).put pp, fun e => k2 (upd_of (by decide) e), fun e => (k3 (upd_of (by decide) e)).put pp, fun e => (k4 (upd_of (by decide) e)).put pp, fun e => (k5 (upd_of (by decide) e)).put pp, fun e => (k6 (upd_of (by decide) e)).put pp, fun _ => HQQ.out.put pp, fun e => k8 (upd_of (by decide) e), fun e => (k9 (upd_of (by decide) e)).put (fun e2 => upd_of (by decide) e2) pp (kd (upd_of (by decide) e) HAL1), fun _ => ⟨g5, bq, Aq, lq, cq, rfl, hg5, ba.out, fun _ => HQQ.out.put pp⟩, fun e e2 => kd (upd_of (by decide) e) (upd_of (by decide) e2), fun e => upd_keep (ks0 (upd_of (by decide) e)), fun _ => upd_keep HAL1⟩
      · intro L a1 W6 hall hJ
        obtain ⟨v0, v1, v2, v3, v4, v5, v6, v7, v8, v9, v10, rfl, js, k0, k1, k2, k3, k4, k5, k6, k7, k8, k9, k10, kd, ks0, ks1⟩ := hJ
        obtain ⟨gp, bp, Ap, lp, cp, rfl, -, xp, hp⟩ := k9 (hall 9 (by omega))
        replace hp := Lib.hid (hp (hall 11 (by omega)))
        replace xp := Lib.hid xp
        obtain ⟨gs, bs, As, ls, cs, rfl, -, xs, hs⟩ := k10 (hall 10 (by omega))
        replace hs := Lib.hid (hs (hall 12 (by omega)))
        replace xs := Lib.hid xs
        obtain rfl := k8 (hall 8 (by omega))
        simp only [Act.put, List.setIfInBounds_toArray, List.set_cons_succ, List.set_cons_zero]
        replace HU := Lib.hid (HU.out.stay js)
        replace HV := Lib.hid (HV.out.stay js)
        replace bx := Lib.hid (bx.out.stay js)
        replace by_ := Lib.hid (by_.out.stay js)
        replace B := Lib.hid (B.out.stay js)
        replace xq := Lib.hid (xq.out.stay js)
        replace hq := Lib.hid (hq.out.stay js)
        replace xr := Lib.hid (xr.out.stay js)
        replace hr := Lib.hid (hr.out.stay js)
        clear k0 k1 k2 k3 k4 k5 k6 k7 kd ks0 ks1 hall js
        clear k9 k10 k8
        go_upto_region 7 with (fail)
        refine wp_region_inv (BackExact W6 (.agg #[.bool b1, .slice A1 l1 c1]) (.agg #[.bool b2, .slice A2 l2 c2]) x y z ok E 40 41 42 43 44 39 45 46 47 11 12) 12 [_] (by kernel_rfl) (by kernel_rfl) rfl ?_ ?_ ?_
        · exact ⟨undef, undef, undef, undef, undef, undef, undef, undef, undef, undef, undef, (by simp only [Act.put, List.setIfInBounds_toArray, List.set_cons_succ, List.set_cons_zero]), below_drewN (Below.refl _ _) 1, (fun e => by cases e), (fun e => by cases e), (fun e => by cases e), (fun e => by cases e), (fun e => by cases e), (fun e => by cases e), (fun e => by cases e), (fun e => by cases e), (fun e => by cases e), (fun e => by cases e), (fun e => by cases e), (fun e => by cases e)⟩
        · intro i o L a1 W hi ho hL hd hJ K hK
          obtain ⟨v0, v1, v2, v3, v4, v5, v6, v7, v8, v9, v11, rfl, js, k0, k1, k2, k3, k4, k5, k6, k7, k8, k9, k11, ks0⟩ := hJ
          obtain rfl | rfl | rfl | rfl | rfl | rfl | rfl | rfl | rfl | rfl | rfl | rfl : i = 0 ∨ i = 1 ∨ i = 2 ∨ i = 3 ∨ i = 4 ∨ i = 5 ∨ i = 6 ∨ i = 7 ∨ i = 8 ∨ i = 9 ∨ i = 10 ∨ i = 11 := by omega
          all_goals obtain rfl := Option.some.inj ho
          all_goals refine ⟨rfl, ?_⟩
          all_goals simp only [Act.put, List.setIfInBounds_toArray, List.set_cons_succ, List.set_cons_zero]
          · have c0 := (bx.out.stay js).cell0
            have c1' := (bx.out.stay js).cell1
            go_big_op
            exact hK _ _ ⟨_, v1, v2, v3, v4, v5, v6, v7, v8, v9, v11, (by simp only [Act.put, List.setIfInBounds_toArray, List.set_cons_succ, List.set_cons_zero]), js, fun _ => rfl, fun e => k1 (upd_of (by decide) e), fun e => k2 (upd_of (by decide) e), fun e => k3 (upd_of (by decide) e), fun e => k4 (upd_of (by decide) e), fun e => k5 (upd_of (by decide) e), fun e => k6 (upd_of (by decide) e), fun e => k7 (upd_of (by decide) e), fun e => k8 (upd_of (by decide) e), fun e => (k9 (upd_of (by decide) e)).same (fun e2 => upd_of (by decide) e2), fun e => k11 (upd_of (by decide) e), fun e => upd_keep (ks0 (upd_of (by decide) e))⟩
          · obtain rfl := k0 (hd 0 (by kernel_rfl))
            clear hd
            go_big_op
            refine (kit_copyInt _ x W (HU.out.stay js) HLX.out).mono ?_
            rintro e W' ⟨u1, rfl, hl, hb⟩
            exact hK _ _ ⟨_, u1, v2, v3, v4, v5, v6, v7, v8, v9, v11, (by simp only [Act.put, List.setIfInBounds_toArray, List.set_cons_succ, List.set_cons_zero]), js.trans (hb.mono js.size), fun e => k0 (upd_of (by decide) e), fun _ => hl.rawV, fun e => k2 (upd_of (by decide) e), fun e => (k3 (upd_of (by decide) e)).stay hb, fun e => (k4 (upd_of (by decide) e)).stay hb, fun e => (k5 (upd_of (by decide) e)).stay hb, fun e => (k6 (upd_of (by decide) e)).stay hb, fun e => k7 (upd_of (by decide) e), fun e => k8 (upd_of (by decide) e), fun e => (k9 (upd_of (by decide) e)).stay (fun e2 => upd_of (by decide) e2) hb, fun e => k11 (upd_of (by decide) e), fun e => upd_keep (ks0 (upd_of (by decide) e))⟩
          · have c0 := (by_.out.stay js).cell0
            have c1' := (by_.out.stay js).cell1
            go_big_op
            exact hK _ _ ⟨v0, v1, _, v3, v4, v5, v6, v7, v8, v9, v11, (by simp only [Act.put, List.setIfInBounds_toArray, List.set_cons_succ, List.set_cons_zero]), js, fun e => k0 (upd_of (by decide) e), fun e => k1 (upd_of (by decide) e), fun _ => rfl, fun e => k3 (upd_of (by decide) e), fun e => k4 (upd_of (by decide) e), fun e => k5 (upd_of (by decide) e), fun e => k6 (upd_of (by decide) e), fun e => k7 (upd_of (by decide) e), fun e => k8 (upd_of (by decide) e), fun e => (k9 (upd_of (by decide) e)).same (fun e2 => upd_of (by decide) e2), fun e => k11 (upd_of (by decide) e), fun e => upd_keep (ks0 (upd_of (by decide) e))⟩
          · obtain rfl := k2 (hd 2 (by kernel_rfl))
            clear hd
            go_big_op
            refine (kit_copyInt _ y W (HV.out.stay js) HLY.out).mono ?_
            rintro e W' ⟨u1, rfl, hl, hb⟩
            exact hK _ _ ⟨v0, v1, _, u1, v4, v5, v6, v7, v8, v9, v11, (by simp only [Act.put, List.setIfInBounds_toArray, List.set_cons_succ, List.set_cons_zero]), js.trans (hb.mono js.size), fun e => k0 (upd_of (by decide) e), fun e => (k1 (upd_of (by decide) e)).stay hb, fun e => k2 (upd_of (by decide) e), fun _ => hl.rawV, fun e => (k4 (upd_of (by decide) e)).stay hb, fun e => (k5 (upd_of (by decide) e)).stay hb, fun e => (k6 (upd_of (by decide) e)).stay hb, fun e => k7 (upd_of (by decide) e), fun e => k8 (upd_of (by decide) e), fun e => (k9 (upd_of (by decide) e)).stay (fun e2 => upd_of (by decide) e2) hb, fun e => k11 (upd_of (by decide) e), fun e => upd_keep (ks0 (upd_of (by decide) e))⟩
          · have h1 := k1 (hd 1 (by kernel_rfl))
            have h3 := k3 (hd 3 (by kernel_rfl))
            clear hd
            go_big_op
            refine (t17_Exact HC.out (h1) (h3) HLY.out).mono ?_
            rintro e W' ⟨ra, rfl, ha, hb⟩
            exact hK _ _ ⟨v0, v1, v2, v3, _, v5, v6, v7, v8, v9, v11, (by simp only [Act.put, List.setIfInBounds_toArray, List.set_cons_succ, List.set_cons_zero]), js.trans (hb.mono js.size), fun e => k0 (upd_of (by decide) e), fun e => (k1 (upd_of (by decide) e)).stay hb, fun e => k2 (upd_of (by decide) e), fun e => (k3 (upd_of (by decide) e)).stay hb, fun _ => ⟨ra, rfl, ha⟩, fun e => (k5 (upd_of (by decide) e)).stay hb, fun e => (k6 (upd_of (by decide) e)).stay hb, fun e => k7 (upd_of (by decide) e), fun e => k8 (upd_of (by decide) e), fun e => (k9 (upd_of (by decide) e)).stay (fun e2 => upd_of (by decide) e2) hb, fun e => k11 (upd_of (by decide) e), fun e => upd_keep (ks0 (upd_of (by decide) e))⟩
          · have h4 := k4 (hd 4 (by kernel_rfl))
            clear hd
            go_big_op
            exact hK _ _ ⟨v0, v1, v2, v3, v4, _, v6, v7, v8, v9, v11, (by simp only [Act.put, List.setIfInBounds_toArray, List.set_cons_succ, List.set_cons_zero]), js, fun e => k0 (upd_of (by decide) e), fun e => k1 (upd_of (by decide) e), fun e => k2 (upd_of (by decide) e), fun e => k3 (upd_of (by decide) e), fun e => k4 (upd_of (by decide) e), fun _ => h4, fun e => k6 (upd_of (by decide) e), fun e => k7 (upd_of (by decide) e), fun e => k8 (upd_of (by decide) e), fun e => (k9 (upd_of (by decide) e)).same (fun e2 => upd_of (by decide) e2), fun e => k11 (upd_of (by decide) e), fun e => upd_keep (ks0 (upd_of (by decide) e))⟩
          · have h5 := k5 (hd 5 (by kernel_rfl))
            have h5' := h5
            obtain ⟨ra, rfl, ha⟩ := h5'
            clear hd
            go_big_op
            exact hK _ _ ⟨v0, v1, v2, v3, v4, _, _, v7, v8, v9, v11, (by simp only [Act.put, List.setIfInBounds_toArray, List.set_cons_succ, List.set_cons_zero]), js, fun e => k0 (upd_of (by decide) e), fun e => k1 (upd_of (by decide) e), fun e => k2 (upd_of (by decide) e), fun e => k3 (upd_of (by decide) e), fun e => k4 (upd_of (by decide) e), fun e => k5 (upd_of (by decide) e), fun _ => ha, fun e => k7 (upd_of (by decide) e), fun e => k8 (upd_of (by decide) e), fun e => (k9 (upd_of (by decide) e)).same (fun e2 => upd_of (by decide) e2), fun e => k11 (upd_of (by decide) e), fun e => upd_keep (ks0 (upd_of (by decide) e))⟩
          · have h5 := k5 (hd 5 (by kernel_rfl))
            have h5' := h5
            obtain ⟨ra, rfl, ha⟩ := h5'
            clear hd
            go_big_op
            exact hK _ _ ⟨v0, v1, v2, v3, v4, _, v6, _, v8, v9, v11, (by simp only [Act.put, List.setIfInBounds_toArray, List.set_cons_succ, List.set_cons_zero]), js, fun e => k0 (upd_of (by decide) e), fun e => k1 (upd_of (by decide) e), fun e => k2 (upd_of (by decide) e), fun e => k3 (upd_of (by decide) e), fun e => k4 (upd_of (by decide) e), fun e => k5 (upd_of (by decide) e), fun e => k6 (upd_of (by decide) e), fun _ => rfl, fun e => k8 (upd_of (by decide) e), fun e => (k9 (upd_of (by decide) e)).same (fun e2 => upd_of (by decide) e2), fun e => k11 (upd_of (by decide) e), fun e => upd_keep (ks0 (upd_of (by decide) e))⟩
          · have h5 := k5 (hd 5 (by kernel_rfl))
            have h5' := h5
            obtain ⟨ra, rfl, ha⟩ := h5'
            clear hd
            go_big_op
            exact hK _ _ ⟨v0, v1, v2, v3, v4, _, v6, v7, _, v9, v11, (by simp only [Act.put, List.setIfInBounds_toArray, List.set_cons_succ, List.set_cons_zero]), js, fun e => k0 (upd_of (by decide) e), fun e => k1 (upd_of (by decide) e), fun e => k2 (upd_of (by decide) e), fun e => k3 (upd_of (by decide) e), fun e => k4 (upd_of (by decide) e), fun e => k5 (upd_of (by decide) e), fun e => k6 (upd_of (by decide) e), fun e => k7 (upd_of (by decide) e), fun _ => rfl, fun e => (k9 (upd_of (by decide) e)).same (fun e2 => upd_of (by decide) e2), fun e => k11 (upd_of (by decide) e), fun e => upd_keep (ks0 (upd_of (by decide) e))⟩
          · have HNS := Lib.hid (show ¬ upd L 9 10 = true from fun e => by have h := ks0 (upd_of (by decide) e); rw [hL] at h; cases h)
            clear hd hL
            go_big_op
            have hb : Below W.heap.size W (W.alloc (.cells #[.bool false, .slice none 0 0] 24)) := (Below.refl _ _).alloc (Nat.le_refl _) _
            exact hK _ _ ⟨v0, v1, v2, v3, v4, v5, v6, v7, v8, _, v11, (by simp only [Act.put, List.setIfInBounds_toArray, List.set_cons_succ, List.set_cons_zero]), js.trans (hb.mono js.size), fun e => k0 (upd_of (by decide) e), fun e => (k1 (upd_of (by decide) e)).stay hb, fun e => k2 (upd_of (by decide) e), fun e => (k3 (upd_of (by decide) e)).stay hb, fun e => (k4 (upd_of (by decide) e)).stay hb, fun e => (k5 (upd_of (by decide) e)).stay hb, fun e => (k6 (upd_of (by decide) e)).stay hb, fun e => k7 (upd_of (by decide) e), fun e => k8 (upd_of (by decide) e), fun _ => BoxQ.new HNS.out js.size, fun e => k11 (upd_of (by decide) e), fun _ => upd_self _ _⟩
          · obtain ⟨g5, bo, Ao, lo, co, rfl, hg5, hbx, -⟩ := k9 (hd 9 (by kernel_rfl))
            have hq := k6 (hd 6 (by kernel_rfl))
            obtain ⟨bq, Aq, lq, cq, rfl, HQQ⟩ := hq.open
            have c0 := hbx.cell0
            have c1' := hbx.cell1
            have f0 := hbx.free
            have HAL0 := (hd 9 (by kernel_rfl))
            clear hd hq
            go_big_op
            clear c0 c1' f0
            obtain ⟨Wa, hWa, ba, pp⟩ := hbx.write (.bool bq) (.slice Aq lq cq)
            rw [hWa]
            exact hK _ _ ⟨v0, v1, v2, v3, v4, v5, _, v7, v8, _, v11, (by simp only [Act.put, List.setIfInBounds_toArray, List.set_cons_succ, List.set_cons_zero]), js.put pp hg5, fun e => k0 (upd_of (by decide) e), fun e => (k1 (upd_of (by decide) e)).put pp, fun e => k2 (upd_of (by decide) e), fun e => (k3 (upd_of (by decide) e)).put pp, fun e => (k4 (upd_of (by decide) e)).put pp, fun e => (k5 (upd_of (by decide) e)).put pp, fun _ => HQQ.out.put pp, fun e => k7 (upd_of (by decide) e), fun e => k8 (upd_of (by decide) e), fun _ => ⟨g5, bq, Aq, lq, cq, rfl, hg5, ba.out, fun _ => HQQ.out.put pp⟩, fun e => k11 (upd_of (by decide) e), fun _ => upd_keep HAL0⟩
          · obtain rfl := k7 (hd 7 (by kernel_rfl))
            clear hd
            go_big_op
            exact hK _ _ ⟨v0, v1, v2, v3, v4, v5, v6, _, v8, v9, _, (by simp only [Act.put, List.setIfInBounds_toArray, List.set_cons_succ, List.set_cons_zero]), js, fun e => k0 (upd_of (by decide) e), fun e => k1 (upd_of (by decide) e), fun e => k2 (upd_of (by decide) e), fun e => k3 (upd_of (by decide) e), fun e => k4 (upd_of (by decide) e), fun e => k5 (upd_of (by decide) e), fun e => k6 (upd_of (by decide) e), fun _ => rfl, fun e => k8 (upd_of (by decide) e), fun e => (k9 (upd_of (by decide) e)).same (fun e2 => upd_of (by decide) e2), fun _ => rfl, fun e => upd_keep (ks0 (upd_of (by decide) e))⟩
        · intro L a1 W7 hall hJ
          obtain ⟨v0, v1, v2, v3, v4, v5, v6, v7, v8, v9, v11, rfl, js, k0, k1, k2, k3, k4, k5, k6, k7, k8, k9, k11, ks0⟩ := hJ
          obtain ⟨gz, bz, Az, lz, cz, rfl, -, xz, hz⟩ := k9 (hall 9 (by omega))
          replace hz := Lib.hid (hz (hall 10 (by omega)))
          replace xz := Lib.hid xz
          obtain rfl := k8 (hall 8 (by omega))
          obtain rfl := k11 (hall 11 (by omega))
          simp only [Act.put, List.setIfInBounds_toArray, List.set_cons_succ, List.set_cons_zero]
          replace HU := Lib.hid (HU.out.stay js)
          replace HV := Lib.hid (HV.out.stay js)
          replace bx := Lib.hid (bx.out.stay js)
          replace by_ := Lib.hid (by_.out.stay js)
          replace B := Lib.hid (B.out.stay js)
          replace xq := Lib.hid (xq.out.stay js)
          replace hq := Lib.hid (hq.out.stay js)
          replace xr := Lib.hid (xr.out.stay js)
          replace hr := Lib.hid (hr.out.stay js)
          replace xp := Lib.hid (xp.out.stay js)
          replace hp := Lib.hid (hp.out.stay js)
          replace xs := Lib.hid (xs.out.stay js)
          replace hs := Lib.hid (hs.out.stay js)
          clear k0 k1 k2 k3 k4 k5 k6 k7 ks0 hall js
          clear k9 k8 k11
          go_upto_region 8 with (fail)
          refine wp_region_inv (BackMod W7 (.agg #[.bool b1, .slice A1 l1 c1]) (.agg #[.bool b2, .slice A2 l2 c2]) x y m Em 49 50 51 52 53 48 54 55 14) 10 [_] (by kernel_rfl) (by kernel_rfl) rfl ?_ ?_ ?_
          · exact ⟨undef, undef, undef, undef, undef, undef, undef, undef, undef, (by simp only [Act.put, List.setIfInBounds_toArray, List.set_cons_succ, List.set_cons_zero]), below_drewN (Below.refl _ _) 1, (fun e => by cases e), (fun e => by cases e), (fun e => by cases e), (fun e => by cases e), (fun e => by cases e), (fun e => by cases e), (fun e => by cases e), (fun e => by cases e), (fun e => by cases e), (fun e => by cases e)⟩
          · intro i o L a1 W hi ho hL hd hJ K hK
            obtain ⟨v0, v1, v2, v3, v4, v5, v6, v7, v8, rfl, js, k0, k1, k2, k3, k4, k5, k6, k7, k8, ks0⟩ := hJ
            obtain rfl | rfl | rfl | rfl | rfl | rfl | rfl | rfl | rfl | rfl : i = 0 ∨ i = 1 ∨ i = 2 ∨ i = 3 ∨ i = 4 ∨ i = 5 ∨ i = 6 ∨ i = 7 ∨ i = 8 ∨ i = 9 := by omega
            all_goals obtain rfl := Option.some.inj ho
            all_goals refine ⟨rfl, ?_⟩
            all_goals simp only [Act.put, List.setIfInBounds_toArray, List.set_cons_succ, List.set_cons_zero]
            · have c0 := (bx.out.stay js).cell0
              have c1' := (bx.out.stay js).cell1
              go_big_op
              exact hK _ _ ⟨_, v1, v2, v3, v4, v5, v6, v7, v8, (by simp only [Act.put, List.setIfInBounds_toArray, List.set_cons_succ, List.set_cons_zero]), js, fun _ => rfl, fun e => k1 (upd_of (by decide) e), fun e => k2 (upd_of (by decide) e), fun e => k3 (upd_of (by decide) e), fun e => k4 (upd_of (by decide) e), fun e => k5 (upd_of (by decide) e), fun e => k6 (upd_of (by decide) e), fun e => k7 (upd_of (by decide) e), fun e => (k8 (upd_of (by decide) e)).same (fun e2 => upd_of (by decide) e2), fun e => upd_keep (ks0 (upd_of (by decide) e))⟩
            · obtain rfl := k0 (hd 0 (by kernel_rfl))
              clear hd
              go_big_op
              refine (kit_copyInt _ x W (HU.out.stay js) HLX.out).mono ?_
              rintro e W' ⟨u1, rfl, hl, hb⟩
              exact hK _ _ ⟨_, u1, v2, v3, v4, v5, v6, v7, v8, (by simp only [Act.put, List.setIfInBounds_toArray, List.set_cons_succ, List.set_cons_zero]), js.trans (hb.mono js.size), fun e => k0 (upd_of (by decide) e), fun _ => hl.rawV, fun e => k2 (upd_of (by decide) e), fun e => (k3 (upd_of (by decide) e)).stay hb, fun e => (k4 (upd_of (by decide) e)).stay hb, fun e => (k5 (upd_of (by decide) e)).stay hb, fun e => (k6 (upd_of (by decide) e)).stay hb, fun e => k7 (upd_of (by decide) e), fun e => (k8 (upd_of (by decide) e)).stay (fun e2 => upd_of (by decide) e2) hb, fun e => upd_keep (ks0 (upd_of (by decide) e))⟩
            · have c0 := (by_.out.stay js).cell0
              have c1' := (by_.out.stay js).cell1
              go_big_op
              exact hK _ _ ⟨v0, v1, _, v3, v4, v5, v6, v7, v8, (by simp only [Act.put, List.setIfInBounds_toArray, List.set_cons_succ, List.set_cons_zero]), js, fun e => k0 (upd_of (by decide) e), fun e => k1 (upd_of (by decide) e), fun _ => rfl, fun e => k3 (upd_of (by decide) e), fun e => k4 (upd_of (by decide) e), fun e => k5 (upd_of (by decide) e), fun e => k6 (upd_of (by decide) e), fun e => k7 (upd_of (by decide) e), fun e => (k8 (upd_of (by decide) e)).same (fun e2 => upd_of (by decide) e2), fun e => upd_keep (ks0 (upd_of (by decide) e))⟩
            · obtain rfl := k2 (hd 2 (by kernel_rfl))
              clear hd
              go_big_op
              refine (kit_copyInt _ y W (HV.out.stay js) HLY.out).mono ?_
              rintro e W' ⟨u1, rfl, hl, hb⟩
              exact hK _ _ ⟨v0, v1, _, u1, v4, v5, v6, v7, v8, (by simp only [Act.put, List.setIfInBounds_toArray, List.set_cons_succ, List.set_cons_zero]), js.trans (hb.mono js.size), fun e => k0 (upd_of (by decide) e), fun e => (k1 (upd_of (by decide) e)).stay hb, fun e => k2 (upd_of (by decide) e), fun _ => hl.rawV, fun e => (k4 (upd_of (by decide) e)).stay hb, fun e => (k5 (upd_of (by decide) e)).stay hb, fun e => (k6 (upd_of (by decide) e)).stay hb, fun e => k7 (upd_of (by decide) e), fun e => (k8 (upd_of (by decide) e)).stay (fun e2 => upd_of (by decide) e2) hb, fun e => upd_keep (ks0 (upd_of (by decide) e))⟩
            · have h1 := k1 (hd 1 (by kernel_rfl))
              have h3 := k3 (hd 3 (by kernel_rfl))
              clear hd
              go_big_op
              refine (t17_Mod HC.out (h1) (h3) HLY.out).mono ?_
              rintro e W' ⟨ra, rfl, ha, hb⟩
              exact hK _ _ ⟨v0, v1, v2, v3, _, v5, v6, v7, v8, (by simp only [Act.put, List.setIfInBounds_toArray, List.set_cons_succ, List.set_cons_zero]), js.trans (hb.mono js.size), fun e => k0 (upd_of (by decide) e), fun e => (k1 (upd_of (by decide) e)).stay hb, fun e => k2 (upd_of (by decide) e), fun e => (k3 (upd_of (by decide) e)).stay hb, fun _ => ⟨ra, rfl, ha⟩, fun e => (k5 (upd_of (by decide) e)).stay hb, fun e => (k6 (upd_of (by decide) e)).stay hb, fun e => k7 (upd_of (by decide) e), fun e => (k8 (upd_of (by decide) e)).stay (fun e2 => upd_of (by decide) e2) hb, fun e => upd_keep (ks0 (upd_of (by decide) e))⟩
            · have h4 := k4 (hd 4 (by kernel_rfl))
              clear hd
              go_big_op
              exact hK _ _ ⟨v0, v1, v2, v3, v4, _, v6, v7, v8, (by simp only [Act.put, List.setIfInBounds_toArray, List.set_cons_succ, List.set_cons_zero]), js, fun e => k0 (upd_of (by decide) e), fun e => k1 (upd_of (by decide) e), fun e => k2 (upd_of (by decide) e), fun e => k3 (upd_of (by decide) e), fun e => k4 (upd_of (by decide) e), fun _ => h4, fun e => k6 (upd_of (by decide) e), fun e => k7 (upd_of (by decide) e), fun e => (k8 (upd_of (by decide) e)).same (fun e2 => upd_of (by decide) e2), fun e => upd_keep (ks0 (upd_of (by decide) e))⟩
            · have h5 := k5 (hd 5 (by kernel_rfl))
              have h5' := h5
              obtain ⟨ra, rfl, ha⟩ := h5'
              clear hd
              go_big_op
              exact hK _ _ ⟨v0, v1, v2, v3, v4, _, _, v7, v8, (by simp only [Act.put, List.setIfInBounds_toArray, List.set_cons_succ, List.set_cons_zero]), js, fun e => k0 (upd_of (by decide) e), fun e => k1 (upd_of (by decide) e), fun e => k2 (upd_of (by decide) e), fun e => k3 (upd_of (by decide) e), fun e => k4 (upd_of (by decide) e), fun e => k5 (upd_of (by decide) e), fun _ => ha, fun e => k7 (upd_of (by decide) e), fun e => (k8 (upd_of (by decide) e)).same (fun e2 => upd_of (by decide) e2), fun e => upd_keep (ks0 (upd_of (by decide) e))⟩
            · have h5 := k5 (hd 5 (by kernel_rfl))
              have h5' := h5
              obtain ⟨ra, rfl, ha⟩ := h5'
              clear hd
              go_big_op
              exact hK _ _ ⟨v0, v1, v2, v3, v4, _, v6, _, v8, (by simp only [Act.put, List.setIfInBounds_toArray, List.set_cons_succ, List.set_cons_zero]), js, fun e => k0 (upd_of (by decide) e), fun e => k1 (upd_of (by decide) e), fun e => k2 (upd_of (by decide) e), fun e => k3 (upd_of (by decide) e), fun e => k4 (upd_of (by decide) e), fun e => k5 (upd_of (by decide) e), fun e => k6 (upd_of (by decide) e), fun _ => rfl, fun e => (k8 (upd_of (by decide) e)).same (fun e2 => upd_of (by decide) e2), fun e => upd_keep (ks0 (upd_of (by decide) e))⟩
            · have HNS := Lib.hid (show ¬ upd L 8 9 = true from fun e => by have h := ks0 (upd_of (by decide) e); rw [hL] at h; cases h)
              clear hd hL
              go_big_op
              have hb : Below W.heap.size W (W.alloc (.cells #[.bool false, .slice none 0 0] 24)) := (Below.refl _ _).alloc (Nat.le_refl _) _
              exact hK _ _ ⟨v0, v1, v2, v3, v4, v5, v6, v7, _, (by simp only [Act.put, List.setIfInBounds_toArray, List.set_cons_succ, List.set_cons_zero]), js.trans (hb.mono js.size), fun e => k0 (upd_of (by decide) e), fun e => (k1 (upd_of (by decide) e)).stay hb, fun e => k2 (upd_of (by decide) e), fun e => (k3 (upd_of (by decide) e)).stay hb, fun e => (k4 (upd_of (by decide) e)).stay hb, fun e => (k5 (upd_of (by decide) e)).stay hb, fun e => (k6 (upd_of (by decide) e)).stay hb, fun e => k7 (upd_of (by decide) e), fun _ => BoxQ.new HNS.out js.size, fun _ => upd_self _ _⟩
            · obtain ⟨g5, bo, Ao, lo, co, rfl, hg5, hbx, -⟩ := k8 (hd 8 (by kernel_rfl))
              have hq := k6 (hd 6 (by kernel_rfl))
              obtain ⟨bq, Aq, lq, cq, rfl, HQQ⟩ := hq.open
              have c0 := hbx.cell0
              have c1' := hbx.cell1
              have f0 := hbx.free
              have HAL0 := (hd 8 (by kernel_rfl))
              clear hd hq
              go_big_op
              clear c0 c1' f0
              obtain ⟨Wa, hWa, ba, pp⟩ := hbx.write (.bool bq) (.slice Aq lq cq)
              rw [hWa]
              exact hK _ _ ⟨v0, v1, v2, v3, v4, v5, _, v7, _, (by simp only [Act.put, List.setIfInBounds_toArray, List.set_cons_succ, List.set_cons_zero]), js.put pp hg5, fun e => k0 (upd_of (by decide) e), fun e => (k1 (upd_of (by decide) e)).put pp, fun e => k2 (upd_of (by decide) e), fun e => (k3 (upd_of (by decide) e)).put pp, fun e => (k4 (upd_of (by decide) e)).put pp, fun e => (k5 (upd_of (by decide) e)).put pp, fun _ => HQQ.out.put pp, fun e => k7 (upd_of (by decide) e), fun _ => ⟨g5, bq, Aq, lq, cq, rfl, hg5, ba.out, fun _ => HQQ.out.put pp⟩, fun _ => upd_keep HAL0⟩
          · intro L a1 W8 hall hJ
            obtain ⟨v0, v1, v2, v3, v4, v5, v6, v7, v8, rfl, js, k0, k1, k2, k3, k4, k5, k6, k7, k8, ks0⟩ := hJ
            obtain ⟨gm, bm, Am, lm, cm, rfl, -, xm, hm⟩ := k8 (hall 8 (by omega))
            replace hm := Lib.hid (hm (hall 9 (by omega)))
            replace xm := Lib.hid xm
            obtain rfl := k7 (hall 7 (by omega))
            simp only [Act.put, List.setIfInBounds_toArray, List.set_cons_succ, List.set_cons_zero]
            replace HU := Lib.hid (HU.out.stay js)
            replace HV := Lib.hid (HV.out.stay js)
            replace bx := Lib.hid (bx.out.stay js)
            replace by_ := Lib.hid (by_.out.stay js)
            replace B := Lib.hid (B.out.stay js)
            replace xq := Lib.hid (xq.out.stay js)
            replace hq := Lib.hid (hq.out.stay js)
            replace xr := Lib.hid (xr.out.stay js)
            replace hr := Lib.hid (hr.out.stay js)
            replace xp := Lib.hid (xp.out.stay js)
            replace hp := Lib.hid (hp.out.stay js)
            replace xs := Lib.hid (xs.out.stay js)
            replace hs := Lib.hid (hs.out.stay js)
            replace xz := Lib.hid (xz.out.stay js)
            replace hz := Lib.hid (hz.out.stay js)
            clear k0 k1 k2 k3 k4 k5 k6 ks0 hall js
            clear k8 k7
            have a0 := bx.out.cell0
            have a1 := bx.out.cell1
            go_wp2_with fail
            refine (raw_right _ x _ HU.out).mono ?_
            rintro e v9 ⟨rfl, hb⟩
            replace HU := Lib.hid (HU.out.stay hb)
            replace HV := Lib.hid (HV.out.stay hb)
            replace bx := Lib.hid (bx.out.stay hb)
            replace by_ := Lib.hid (by_.out.stay hb)
            replace B := Lib.hid (B.out.stay hb)
            replace xq := Lib.hid (xq.out.stay hb)
            replace hq := Lib.hid (hq.out.stay hb)
            replace xr := Lib.hid (xr.out.stay hb)
            replace hr := Lib.hid (hr.out.stay hb)
            replace xp := Lib.hid (xp.out.stay hb)
            replace hp := Lib.hid (hp.out.stay hb)
            replace xs := Lib.hid (xs.out.stay hb)
            replace hs := Lib.hid (hs.out.stay hb)
            replace xz := Lib.hid (xz.out.stay hb)
            replace hz := Lib.hid (hz.out.stay hb)
            replace xm := Lib.hid (xm.out.stay hb)
            replace hm := Lib.hid (hm.out.stay hb)
            clear hb a0 a1
            rcases hra : rightInt x
            · obtain ⟨rfl, rfl, rfl⟩ := HC.out.bad2 (by rw [hra]; rfl)
              clear hra
              go_wp2_with fail
              go_ret
              exact ⟨rfl, B.out⟩
            have HRA := Lib.hid hra
            clear hra
            have a0 := by_.out.cell0
            have a1 := by_.out.cell1
            go_wp2_with fail
            refine (raw_right _ y _ HV.out).mono ?_
            rintro e v10 ⟨rfl, hb⟩
            replace HU := Lib.hid (HU.out.stay hb)
            replace HV := Lib.hid (HV.out.stay hb)
            replace bx := Lib.hid (bx.out.stay hb)
            replace by_ := Lib.hid (by_.out.stay hb)
            replace B := Lib.hid (B.out.stay hb)
            replace xq := Lib.hid (xq.out.stay hb)
            replace hq := Lib.hid (hq.out.stay hb)
            replace xr := Lib.hid (xr.out.stay hb)
            replace hr := Lib.hid (hr.out.stay hb)
            replace xp := Lib.hid (xp.out.stay hb)
            replace hp := Lib.hid (hp.out.stay hb)
            replace xs := Lib.hid (xs.out.stay hb)
            replace hs := Lib.hid (hs.out.stay hb)
            replace xz := Lib.hid (xz.out.stay hb)
            replace hz := Lib.hid (hz.out.stay hb)
            replace xm := Lib.hid (xm.out.stay hb)
            replace hm := Lib.hid (hm.out.stay hb)
            clear hb a0 a1
            rcases hrb : rightInt y
            · obtain ⟨rfl, rfl, rfl⟩ := HC.out.bad2 (by rw [HRA.out, hrb]; rfl)
              clear hrb
              go_wp2_with fail
              go_ret
              exact ⟨rfl, B.out⟩
            have HRB := Lib.hid hrb
            clear hrb
            by_cases hy0 : y.2.length = 0
            · obtain ⟨rfl, rfl, rfl⟩ := HC.out.bad7 HRA.out HRB.out hy0
              have HY0 := Lib.hid (show sgnR y = 0 by unfold sgnR; rw [if_pos hy0])
              clear hy0
              have a0 := by_.out.cell0
              have a1 := by_.out.cell1
              go_wp2_with fail
              refine (sign_is HV.out HY0.out).mono ?_
              rintro e v11 ⟨rfl, hb⟩
              replace B := Lib.hid (B.out.stay hb)
              clear hb a0 a1
              go_wp2_with fail
              go_ret
              exact ⟨rfl, B.out⟩
            obtain ⟨X, Y, rfl, rfl, lX, lY, h0, rfl, rfl, rfl, rfl, rfl, hok, hzz, hmm, hEm⟩ := HC.out.good HRA.out HRB.out hy0
            obtain ⟨sr, sb, ss, sa, P, Q, er, eb, es, ea, hsg, hb0⟩ := rest_signs h0 hok
            have HL := Lib.hid (back_lens lX lY h0)
            have HSUM := Lib.hid (back_sums (X := X) h0)
            have HSG := Lib.hid hsg
            have ER := Lib.hid er
            have EB := Lib.hid eb
            have ES := Lib.hid es
            have EA := Lib.hid ea
            have HCC := Lib.hid (And.intro h0 (And.intro hok (And.intro hzz (And.intro hmm hEm))))
            clear hy0 lX lY h0 hok hzz hmm hEm hsg er eb es ea HC HRA HRB HS HLX HLY
            have a0 := by_.out.cell0
            have a1 := by_.out.cell1
            go_wp2_with fail
            refine (sign_is HV.out EB.out).mono ?_
            rintro e v11 ⟨rfl, hb⟩
            replace HU := Lib.hid (HU.out.stay hb)
            replace HV := Lib.hid (HV.out.stay hb)
            replace bx := Lib.hid (bx.out.stay hb)
            replace by_ := Lib.hid (by_.out.stay hb)
            replace B := Lib.hid (B.out.stay hb)
            replace xq := Lib.hid (xq.out.stay hb)
            replace hq := Lib.hid (hq.out.stay hb)
            replace xr := Lib.hid (xr.out.stay hb)
            replace hr := Lib.hid (hr.out.stay hb)
            replace xp := Lib.hid (xp.out.stay hb)
            replace hp := Lib.hid (hp.out.stay hb)
            replace xs := Lib.hid (xs.out.stay hb)
            replace hs := Lib.hid (hs.out.stay hb)
            replace xz := Lib.hid (xz.out.stay hb)
            replace hz := Lib.hid (hz.out.stay hb)
            replace xm := Lib.hid (xm.out.stay hb)
            replace hm := Lib.hid (hm.out.stay hb)
            clear hb a0 a1
            have a0 := bx.out.cell0
            have a1 := bx.out.cell1
            have k0 := by_.out.cell0
            have k1 := by_.out.cell1
            have c0 := xq.out.cell0
            have c1 := xq.out.cell1
            have d0 := xr.out.cell0
            have d1 := xr.out.cell1
            go_wp2_with fail
            refine (law17_back _ _ _ _ _ _ _ _ _ hq.out.int HV.out.int hr.out.int HU.out.int HL.out.2.2.1 HL.out.2.1 HL.out.2.2.2.1 HL.out.1 HL.out.2.2.2.2.1 HSUM.out.1).mono ?_
            rintro e v12 ⟨rfl, hb⟩
            replace HU := Lib.hid (HU.out.stay hb)
            replace HV := Lib.hid (HV.out.stay hb)
            replace bx := Lib.hid (bx.out.stay hb)
            replace by_ := Lib.hid (by_.out.stay hb)
            replace B := Lib.hid (B.out.stay hb)
            replace xq := Lib.hid (xq.out.stay hb)
            replace hq := Lib.hid (hq.out.stay hb)
            replace xr := Lib.hid (xr.out.stay hb)
            replace hr := Lib.hid (hr.out.stay hb)
            replace xp := Lib.hid (xp.out.stay hb)
            replace hp := Lib.hid (hp.out.stay hb)
            replace xs := Lib.hid (xs.out.stay hb)
            replace hs := Lib.hid (hs.out.stay hb)
            replace xz := Lib.hid (xz.out.stay hb)
            replace hz := Lib.hid (hz.out.stay hb)
            replace xm := Lib.hid (xm.out.stay hb)
            replace hm := Lib.hid (hm.out.stay hb)
            clear hb a0 a1 k0 k1 c0 c1 d0 d1 hb0
            have a0 := bx.out.cell0
            have a1 := bx.out.cell1
            have k0 := by_.out.cell0
            have k1 := by_.out.cell1
            have c0 := xp.out.cell0
            have c1 := xp.out.cell1
            have d0 := xs.out.cell0
            have d1 := xs.out.cell1
            go_wp2_with fail
            refine (law17_back _ _ _ _ _ _ _ _ _ hp.out.int HV.out.int hs.out.int HU.out.int HL.out.2.2.2.2.2.1 HL.out.2.1 HL.out.2.2.2.2.2.2.1 HL.out.1 HL.out.2.2.2.2.2.2.2 HSUM.out.2.1).mono ?_
            rintro e v13 ⟨rfl, hb⟩
            replace HU := Lib.hid (HU.out.stay hb)
            replace HV := Lib.hid (HV.out.stay hb)
            replace bx := Lib.hid (bx.out.stay hb)
            replace by_ := Lib.hid (by_.out.stay hb)
            replace B := Lib.hid (B.out.stay hb)
            replace xq := Lib.hid (xq.out.stay hb)
            replace hq := Lib.hid (hq.out.stay hb)
            replace xr := Lib.hid (xr.out.stay hb)
            replace hr := Lib.hid (hr.out.stay hb)
            replace xp := Lib.hid (xp.out.stay hb)
            replace hp := Lib.hid (hp.out.stay hb)
            replace xs := Lib.hid (xs.out.stay hb)
            replace hs := Lib.hid (hs.out.stay hb)
            replace xz := Lib.hid (xz.out.stay hb)
            replace hz := Lib.hid (hz.out.stay hb)
            replace xm := Lib.hid (xm.out.stay hb)
            replace hm := Lib.hid (hm.out.stay hb)
            clear hb a0 a1 k0 k1 c0 c1 d0 d1
            have k0 := by_.out.cell0
            have k1 := by_.out.cell1
            have d0 := xr.out.cell0
            have d1 := xr.out.cell1
            go_wp2_with fail
            refine (law17_nearer _ _ _ _ _ hr.out.int HV.out.int HL.out.2.2.2.1 HL.out.2.1 HSUM.out.2.2.1).mono ?_
            rintro e v14 ⟨rfl, hb⟩
            replace HU := Lib.hid (HU.out.stay hb)
            replace HV := Lib.hid (HV.out.stay hb)
            replace bx := Lib.hid (bx.out.stay hb)
            replace by_ := Lib.hid (by_.out.stay hb)
            replace B := Lib.hid (B.out.stay hb)
            replace xq := Lib.hid (xq.out.stay hb)
            replace hq := Lib.hid (hq.out.stay hb)
            replace xr := Lib.hid (xr.out.stay hb)
            replace hr := Lib.hid (hr.out.stay hb)
            replace xp := Lib.hid (xp.out.stay hb)
            replace hp := Lib.hid (hp.out.stay hb)
            replace xs := Lib.hid (xs.out.stay hb)
            replace hs := Lib.hid (hs.out.stay hb)
            replace xz := Lib.hid (xz.out.stay hb)
            replace hz := Lib.hid (hz.out.stay hb)
            replace xm := Lib.hid (xm.out.stay hb)
            replace hm := Lib.hid (hm.out.stay hb)
            clear hb k0 k1 d0 d1
            have k0 := by_.out.cell0
            have k1 := by_.out.cell1
            have d0 := xs.out.cell0
            have d1 := xs.out.cell1
            go_wp2_with fail
            refine (law17_nearer _ _ _ _ _ hs.out.int HV.out.int HL.out.2.2.2.2.2.2.1 HL.out.2.1 HSUM.out.2.2.2).mono ?_
            rintro e v15 ⟨rfl, hb⟩
            replace HU := Lib.hid (HU.out.stay hb)
            replace HV := Lib.hid (HV.out.stay hb)
            replace bx := Lib.hid (bx.out.stay hb)
            replace by_ := Lib.hid (by_.out.stay hb)
            replace B := Lib.hid (B.out.stay hb)
            replace xq := Lib.hid (xq.out.stay hb)
            replace hq := Lib.hid (hq.out.stay hb)
            replace xr := Lib.hid (xr.out.stay hb)
            replace hr := Lib.hid (hr.out.stay hb)
            replace xp := Lib.hid (xp.out.stay hb)
            replace hp := Lib.hid (hp.out.stay hb)
            replace xs := Lib.hid (xs.out.stay hb)
            replace hs := Lib.hid (hs.out.stay hb)
            replace xz := Lib.hid (xz.out.stay hb)
            replace hz := Lib.hid (hz.out.stay hb)
            replace xm := Lib.hid (xm.out.stay hb)
            replace hm := Lib.hid (hm.out.stay hb)
            clear hb k0 k1 d0 d1
            go_upto_region 15 with (fail)
            have a0 := later_cell bx.out.cell0
            have a1 := later_cell bx.out.cell1
            have k0 := later_cell by_.out.cell0
            have k1 := later_cell by_.out.cell1
            have c0 := later_cell xr.out.cell0
            have c1 := later_cell xr.out.cell1
            have d0 := later_cell xs.out.cell0
            have d1 := later_cell xs.out.cell1
            obtain ⟨hP, hP0, hQ, hQ0, hr0, hs0⟩ := HSG.out
            refine wp_region_stages (fun w' => ∃ δ : Later Nix v15, w' = δ.world) [(false, 0), (false, 2), (true, 1), (true, 3), (false, 4), (false, 5), (false, 6), (false, 7), (false, 9), (true, 8), (true, 10), (false, 11), (false, 12), (false, 13), (false, 14), (false, 15), (false, 16), (true, 17), (false, 18), (false, 19), (false, 20), (false, 21), (false, 22), (false, 23), (true, 24), (false, 25)] 26 [.reads [_, _], .loud _, .loud _, .reads [_, _, _, _, _], .loud _, .loud _, .reads [_, _, _, _, _, _], .loud _, .reads [_, _, _, _, _, _], .loud _, .reads [_]] [_, _] (by kernel_rfl) (by kernel_rfl) rfl rfl ?_ ?_
            · exact ⟨⟨_, nix_drawn v15⟩, rfl⟩
            refine wpStages_reads ?_
            repeat (go_big_quiet_step (fail))
            refine wpQuiet_nil ?_
            refine wpStages_loud rfl ?_
            intro K hK
            go_big_op
            have ex : Ext Nix v15 (v15.drewN 1) := nix_drawn v15
            have hb : Below v15.heap.size v15 (v15.drewN 1) := below_drewN (Below.refl _ _) 1
            replace HU := Lib.hid (HU.out.stay hb)
            replace HV := Lib.hid (HV.out.stay hb)
            replace bx := Lib.hid (bx.out.stay hb)
            replace by_ := Lib.hid (by_.out.stay hb)
            replace B := Lib.hid (B.out.stay hb)
            replace xq := Lib.hid (xq.out.stay hb)
            replace hq := Lib.hid (hq.out.stay hb)
            replace xr := Lib.hid (xr.out.stay hb)
            replace hr := Lib.hid (hr.out.stay hb)
            replace xp := Lib.hid (xp.out.stay hb)
            replace hp := Lib.hid (hp.out.stay hb)
            replace xs := Lib.hid (xs.out.stay hb)
            replace hs := Lib.hid (hs.out.stay hb)
            replace xz := Lib.hid (xz.out.stay hb)
            replace hz := Lib.hid (hz.out.stay hb)
            replace xm := Lib.hid (xm.out.stay hb)
            replace hm := Lib.hid (hm.out.stay hb)
            clear hb
            refine ((sign_is hr.out ER.out)).mono ?_
            rintro e x1 ⟨rfl, hb⟩
            replace ex : Ext Nix v15 x1 := ex.later (Ext.of_below hb)
            replace HU := Lib.hid (HU.out.stay hb)
            replace HV := Lib.hid (HV.out.stay hb)
            replace bx := Lib.hid (bx.out.stay hb)
            replace by_ := Lib.hid (by_.out.stay hb)
            replace B := Lib.hid (B.out.stay hb)
            replace xq := Lib.hid (xq.out.stay hb)
            replace hq := Lib.hid (hq.out.stay hb)
            replace xr := Lib.hid (xr.out.stay hb)
            replace hr := Lib.hid (hr.out.stay hb)
            replace xp := Lib.hid (xp.out.stay hb)
            replace hp := Lib.hid (hp.out.stay hb)
            replace xs := Lib.hid (xs.out.stay hb)
            replace hs := Lib.hid (hs.out.stay hb)
            replace xz := Lib.hid (xz.out.stay hb)
            replace hz := Lib.hid (hz.out.stay hb)
            replace xm := Lib.hid (xm.out.stay hb)
            replace hm := Lib.hid (hm.out.stay hb)
            clear hb
            refine hK _ _ ⟨⟨_, ex⟩, rfl⟩ ?_
            clear hK K
            refine wpStages_loud rfl ?_
            intro K hK
            go_big_op
            refine ((sign_is HV.out EB.out)).mono ?_
            rintro e x2 ⟨rfl, hb⟩
            replace ex : Ext Nix v15 x2 := ex.later (Ext.of_below hb)
            replace HU := Lib.hid (HU.out.stay hb)
            replace HV := Lib.hid (HV.out.stay hb)
            replace bx := Lib.hid (bx.out.stay hb)
            replace by_ := Lib.hid (by_.out.stay hb)
            replace B := Lib.hid (B.out.stay hb)
            replace xq := Lib.hid (xq.out.stay hb)
            replace hq := Lib.hid (hq.out.stay hb)
            replace xr := Lib.hid (xr.out.stay hb)
            replace hr := Lib.hid (hr.out.stay hb)
            replace xp := Lib.hid (xp.out.stay hb)
            replace hp := Lib.hid (hp.out.stay hb)
            replace xs := Lib.hid (xs.out.stay hb)
            replace hs := Lib.hid (hs.out.stay hb)
            replace xz := Lib.hid (xz.out.stay hb)
            replace hz := Lib.hid (hz.out.stay hb)
            replace xm := Lib.hid (xm.out.stay hb)
            replace hm := Lib.hid (hm.out.stay hb)
            clear hb
            refine hK _ _ ⟨⟨_, ex⟩, rfl⟩ ?_
            clear hK K
            refine wpStages_reads ?_
            repeat (go_big_quiet_step (fail))
            refine wpQuiet_nil ?_
            refine wpStages_loud rfl ?_
            intro K hK
            go_big_op
            refine ((sign_is hs.out ES.out)).mono ?_
            rintro e x3 ⟨rfl, hb⟩
            replace ex : Ext Nix v15 x3 := ex.later (Ext.of_below hb)
            replace HU := Lib.hid (HU.out.stay hb)
            replace HV := Lib.hid (HV.out.stay hb)
            replace bx := Lib.hid (bx.out.stay hb)
            replace by_ := Lib.hid (by_.out.stay hb)
            replace B := Lib.hid (B.out.stay hb)
            replace xq := Lib.hid (xq.out.stay hb)
            replace hq := Lib.hid (hq.out.stay hb)
            replace xr := Lib.hid (xr.out.stay hb)
            replace hr := Lib.hid (hr.out.stay hb)
            replace xp := Lib.hid (xp.out.stay hb)
            replace hp := Lib.hid (hp.out.stay hb)
            replace xs := Lib.hid (xs.out.stay hb)
            replace hs := Lib.hid (hs.out.stay hb)
            replace xz := Lib.hid (xz.out.stay hb)
            replace hz := Lib.hid (hz.out.stay hb)
            replace xm := Lib.hid (xm.out.stay hb)
            replace hm := Lib.hid (hm.out.stay hb)
            clear hb
            refine hK _ _ ⟨⟨_, ex⟩, rfl⟩ ?_
            clear hK K
            refine wpStages_loud rfl ?_
            intro K hK
            go_big_op
            refine ((sign_is HU.out EA.out)).mono ?_
            rintro e x4 ⟨rfl, hb⟩
            replace ex : Ext Nix v15 x4 := ex.later (Ext.of_below hb)
            replace HU := Lib.hid (HU.out.stay hb)
            replace HV := Lib.hid (HV.out.stay hb)
            replace bx := Lib.hid (bx.out.stay hb)
            replace by_ := Lib.hid (by_.out.stay hb)
            replace B := Lib.hid (B.out.stay hb)
            replace xq := Lib.hid (xq.out.stay hb)
            replace hq := Lib.hid (hq.out.stay hb)
            replace xr := Lib.hid (xr.out.stay hb)
            replace hr := Lib.hid (hr.out.stay hb)
            replace xp := Lib.hid (xp.out.stay hb)
            replace hp := Lib.hid (hp.out.stay hb)
            replace xs := Lib.hid (xs.out.stay hb)
            replace hs := Lib.hid (hs.out.stay hb)
            replace xz := Lib.hid (xz.out.stay hb)
            replace hz := Lib.hid (hz.out.stay hb)
            replace xm := Lib.hid (xm.out.stay hb)
            replace hm := Lib.hid (hm.out.stay hb)
            clear hb
            refine hK _ _ ⟨⟨_, ex⟩, rfl⟩ ?_
            clear hK K
            refine wpStages_reads ?_
            repeat (go_big_quiet_step (fail))
            refine wpQuiet_nil ?_
            refine wpStages_loud rfl ?_
            intro K hK
            go_big_op
            refine ((sign_is hr.out ER.out)).mono ?_
            rintro e x5 ⟨rfl, hb⟩
            replace ex : Ext Nix v15 x5 := ex.later (Ext.of_below hb)
            replace HU := Lib.hid (HU.out.stay hb)
            replace HV := Lib.hid (HV.out.stay hb)
            replace bx := Lib.hid (bx.out.stay hb)
            replace by_ := Lib.hid (by_.out.stay hb)
            replace B := Lib.hid (B.out.stay hb)
            replace xq := Lib.hid (xq.out.stay hb)
            replace hq := Lib.hid (hq.out.stay hb)
            replace xr := Lib.hid (xr.out.stay hb)
            replace hr := Lib.hid (hr.out.stay hb)
            replace xp := Lib.hid (xp.out.stay hb)
            replace hp := Lib.hid (hp.out.stay hb)
            replace xs := Lib.hid (xs.out.stay hb)
            replace hs := Lib.hid (hs.out.stay hb)
            replace xz := Lib.hid (xz.out.stay hb)
            replace hz := Lib.hid (hz.out.stay hb)
            replace xm := Lib.hid (xm.out.stay hb)
            replace hm := Lib.hid (hm.out.stay hb)
            clear hb
            refine hK _ _ ⟨⟨_, ex⟩, rfl⟩ ?_
            clear hK K
            refine wpStages_reads ?_
            repeat (go_big_quiet_step (fail))
            refine wpQuiet_nil ?_
            refine wpStages_loud rfl ?_
            intro K hK
            go_big_op
            refine ((sign_is hs.out ES.out)).mono ?_
            rintro e x6 ⟨rfl, hb⟩
            replace ex : Ext Nix v15 x6 := ex.later (Ext.of_below hb)
            replace HU := Lib.hid (HU.out.stay hb)
            replace HV := Lib.hid (HV.out.stay hb)
            replace bx := Lib.hid (bx.out.stay hb)
            replace by_ := Lib.hid (by_.out.stay hb)
            replace B := Lib.hid (B.out.stay hb)
            replace xq := Lib.hid (xq.out.stay hb)
            replace hq := Lib.hid (hq.out.stay hb)
            replace xr := Lib.hid (xr.out.stay hb)
            replace hr := Lib.hid (hr.out.stay hb)
            replace xp := Lib.hid (xp.out.stay hb)
            replace hp := Lib.hid (hp.out.stay hb)
            replace xs := Lib.hid (xs.out.stay hb)
            replace hs := Lib.hid (hs.out.stay hb)
            replace xz := Lib.hid (xz.out.stay hb)
            replace hz := Lib.hid (hz.out.stay hb)
            replace xm := Lib.hid (xm.out.stay hb)
            replace hm := Lib.hid (hm.out.stay hb)
            clear hb
            refine hK _ _ ⟨⟨_, ex⟩, rfl⟩ ?_
            clear hK K
            refine wpStages_reads ?_
            repeat (go_big_quiet_step (fail))
            refine wpQuiet_nil ?_
            refine wpStages_nil ?_
            clear a0 a1 k0 k1 c0 c1 d0 d1 ex
            go_upto_region 17 with (fail)
            clear hP hP0 hQ hQ0 hr0 hs0
            rcases hokk : ok
            · have HZ0 := Lib.hid (show sgnR z = 0 by
                have h1 := HCC.out.2.2.1
                have h2 := HCC.out.2.1
                rw [hokk] at h2
                rw [if_neg (of_decide_eq_false h2.symm)] at h1
                rw [h1]; rfl)
              clear hokk
              have a0 := xz.out.cell0
              have a1 := xz.out.cell1
              go_wp2_with fail
              refine (sign_is hz.out HZ0.out).mono ?_
              rintro e v16 ⟨rfl, hb⟩
              replace HU := Lib.hid (HU.out.stay hb)
              replace HV := Lib.hid (HV.out.stay hb)
              replace bx := Lib.hid (bx.out.stay hb)
              replace by_ := Lib.hid (by_.out.stay hb)
              replace B := Lib.hid (B.out.stay hb)
              replace xq := Lib.hid (xq.out.stay hb)
              replace hq := Lib.hid (hq.out.stay hb)
              replace xr := Lib.hid (xr.out.stay hb)
              replace hr := Lib.hid (hr.out.stay hb)
              replace xp := Lib.hid (xp.out.stay hb)
              replace hp := Lib.hid (hp.out.stay hb)
              replace xs := Lib.hid (xs.out.stay hb)
              replace hs := Lib.hid (hs.out.stay hb)
              replace xz := Lib.hid (xz.out.stay hb)
              replace hz := Lib.hid (hz.out.stay hb)
              replace xm := Lib.hid (xm.out.stay hb)
              replace hm := Lib.hid (hm.out.stay hb)
              clear hb a0 a1
              by_cases hn : Y < 0
              · obtain rfl : b2 = true := HV.out.parts.1.trans (decide_eq_true hn)
                have HM0 := Lib.hid (show sgnR m = 0 by rw [HCC.out.2.2.2.1]; unfold modR; rw [if_pos hn]; rfl)
                obtain rfl : Em = 2 := by rw [HCC.out.2.2.2.2]; unfold modE; rw [if_pos hn]
                clear hn
                have a0 := by_.out.cell0
                have a1 := by_.out.cell1
                have k0 := xm.out.cell0
                have k1 := xm.out.cell1
                go_wp2_with fail
                refine (sign_is hm.out HM0.out).mono ?_
                rintro e v17 ⟨rfl, hb⟩
                replace B := Lib.hid (B.out.stay hb)
                clear hb a0 a1 k0 k1
                go_wp2_with fail
                go_ret
                exact ⟨rfl, B.out⟩
              · obtain rfl : b2 = false := HV.out.parts.1.trans (decide_eq_false hn)
                have HM0 := Lib.hid (show m = rawOf (X.fmod Y) by rw [HCC.out.2.2.2.1]; unfold modR; rw [if_neg hn])
                obtain rfl : Em = 0 := by rw [HCC.out.2.2.2.2]; unfold modE; rw [if_neg hn]
                clear hn
                have a0 := by_.out.cell0
                have a1 := by_.out.cell1
                have k0 := xm.out.cell0
                have k1 := xm.out.cell1
                have c0 := xr.out.cell0
                have c1 := xr.out.cell1
                go_wp2_with fail
                refine (kit_raw _ _ m (rawOf (X.fmod Y)) _ hm.out hr.out (by rw [HM0.out]; exact Nat.le_trans HL.out.2.2.2.1 (show 4096 ≤ 1099511627776 by omega))).mono ?_
                rintro e v17 ⟨rfl, hb⟩
                replace B := Lib.hid (B.out.stay hb)
                clear hb a0 a1 k0 k1 c0 c1
                rw [decide_eq_true HM0.out]
                go_wp2_with fail
                go_ret
                exact ⟨rfl, B.out⟩
            · have HZ0 := Lib.hid (show z = rawOf (X.fdiv Y) by
                have h1 := HCC.out.2.2.1
                have h2 := HCC.out.2.1
                rw [hokk] at h2
                have h3 := of_decide_eq_true h2.symm
                rw [if_pos h3] at h1
                rw [whole_same HCC.out.1 h3, h1])
              clear hokk
              have a0 := xz.out.cell0
              have a1 := xz.out.cell1
              have k0 := xq.out.cell0
              have k1 := xq.out.cell1
              go_wp2_with fail
              refine (kit_raw _ _ z (rawOf (X.fdiv Y)) _ hz.out hq.out (by rw [HZ0.out]; exact Nat.le_trans HL.out.2.2.1 (show 4096 ≤ 1099511627776 by omega))).mono ?_
              rintro e v16 ⟨rfl, hb⟩
              replace HU := Lib.hid (HU.out.stay hb)
              replace HV := Lib.hid (HV.out.stay hb)
              replace bx := Lib.hid (bx.out.stay hb)
              replace by_ := Lib.hid (by_.out.stay hb)
              replace B := Lib.hid (B.out.stay hb)
              replace xq := Lib.hid (xq.out.stay hb)
              replace hq := Lib.hid (hq.out.stay hb)
              replace xr := Lib.hid (xr.out.stay hb)
              replace hr := Lib.hid (hr.out.stay hb)
              replace xp := Lib.hid (xp.out.stay hb)
              replace hp := Lib.hid (hp.out.stay hb)
              replace xs := Lib.hid (xs.out.stay hb)
              replace hs := Lib.hid (hs.out.stay hb)
              replace xz := Lib.hid (xz.out.stay hb)
              replace hz := Lib.hid (hz.out.stay hb)
              replace xm := Lib.hid (xm.out.stay hb)
              replace hm := Lib.hid (hm.out.stay hb)
              clear hb a0 a1 k0 k1
              rw [decide_eq_true HZ0.out]
              by_cases hn : Y < 0
              · obtain rfl : b2 = true := HV.out.parts.1.trans (decide_eq_true hn)
                have HM0 := Lib.hid (show sgnR m = 0 by rw [HCC.out.2.2.2.1]; unfold modR; rw [if_pos hn]; rfl)
                obtain rfl : Em = 2 := by rw [HCC.out.2.2.2.2]; unfold modE; rw [if_pos hn]
                clear hn
                have a0 := by_.out.cell0
                have a1 := by_.out.cell1
                have k0 := xm.out.cell0
                have k1 := xm.out.cell1
                go_wp2_with fail
                refine (sign_is hm.out HM0.out).mono ?_
                rintro e v17 ⟨rfl, hb⟩
                replace B := Lib.hid (B.out.stay hb)
                clear hb a0 a1 k0 k1
                go_wp2_with fail
                go_ret
                exact ⟨rfl, B.out⟩
              · obtain rfl : b2 = false := HV.out.parts.1.trans (decide_eq_false hn)
                have HM0 := Lib.hid (show m = rawOf (X.fmod Y) by rw [HCC.out.2.2.2.1]; unfold modR; rw [if_neg hn])
                obtain rfl : Em = 0 := by rw [HCC.out.2.2.2.2]; unfold modE; rw [if_neg hn]
                clear hn
                have a0 := by_.out.cell0
                have a1 := by_.out.cell1
                have k0 := xm.out.cell0
                have k1 := xm.out.cell1
                have c0 := xr.out.cell0
                have c1 := xr.out.cell1
                go_wp2_with fail
                refine (kit_raw _ _ m (rawOf (X.fmod Y)) _ hm.out hr.out (by rw [HM0.out]; exact Nat.le_trans HL.out.2.2.2.1 (show 4096 ≤ 1099511627776 by omega))).mono ?_
                rintro e v17 ⟨rfl, hb⟩
                replace B := Lib.hid (B.out.stay hb)
                clear hb a0 a1 k0 k1 c0 c1
                rw [decide_eq_true HM0.out]
                go_wp2_with fail
                go_ret
                exact ⟨rfl, B.out⟩
end Go.Proofs.Ytonbhpadoplpkaa
