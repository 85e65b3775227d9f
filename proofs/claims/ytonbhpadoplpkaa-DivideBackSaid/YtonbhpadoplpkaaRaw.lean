import Derived.Test.YtonbhpadoplpkaaBox
import Derived.Test.YtonbhpadoplpkaaKit
/- Records of a sign and limbs, as values. -/
namespace Go.Proofs.Ytonbhpadoplpkaa
open Go.RowKit Go.Deep
theorem IntV.parts {w : World} {s : Bool} {A : Option Addr} {l c : Nat} {z : Int} (h : IntV w (.agg #[.bool s, .slice A l c]) z) : s = decide (z < 0) ∧ l = (limbs z.natAbs).length ∧ l ≤ c ∧ Lim w w.heap.size A (limbs z.natAbs) := by
  obtain ⟨A', l', c', hv, hl, hc, hlim⟩ := h
  injection hv with hv
  have h0 := congrArg (fun a => a[0]?) hv
  have h1 := congrArg (fun a => a[1]?) hv
  simp at h0 h1
  obtain ⟨rfl, rfl, rfl⟩ := h1
  exact ⟨h0, hl, hc, hlim⟩
theorem right_int (v : Value) (z : Int) (w : World) (h : IntV w v z) (hl : lc z.natAbs ≤ 4096) : Calls Try.prog 15 #[v] w fun e w' => e = .returned (.bool true) ∧ Below w.heap.size w w' := by
  obtain ⟨A, l, c, rfl, hll, hc, hlim⟩ := h
  refine (limb_right _ A l c (limbs z.natAbs) w (Nat.le_refl _) hlim hll).mono ?_
  rintro e w' ⟨rfl, hb⟩
  rw [right_of hl]
  exact ⟨rfl, hb⟩
theorem one_len : (limbs (1 : Int).natAbs).length ≤ 1 := by
  show lc 1 ≤ 1
  rw [lc_le, Nat.pow_one, W64_eq]; omega
theorem cmpZ_eq (x : Int) : cmpZ x x = 0 := by unfold cmpZ; simp
theorem cmpZ_gt {x y : Int} (h : y < x) : cmpZ x y = 1 := by unfold cmpZ; rw [if_neg (by omega), if_pos h]
theorem cmpZ_lt {x y : Int} (h : x < y) : cmpZ x y = -1 := by unfold cmpZ; rw [if_pos h]
theorem results_rec2 {fn : Func} {p q u : Tmp} {ty : TypeId} (h : fn.results = #[.cell p ty, .cell q ty, .tmp u]) (tmps : Array Value) (P : Program) (w : World) :
    (results fn tmps).run P w =
      ((asAddr (tmps.getD p undef)).run P w).andThen fun a w₁ => ((loadVar ty a).run P w₁).andThen fun v w₂ => ((asAddr (tmps.getD q undef)).run P w₂).andThen fun b w₃ => ((loadVar ty b).run P w₃).andThen fun x w₄ => .ok (.tuple #[v, x, tmps.getD u undef]) w₄ := by
  simp only [results, h]
  simp [Sem.run_bind, Result.andThen]
theorem results_rec_two {fn : Func} {p q u : Tmp} {ty : TypeId} (h : fn.results = #[.cell p ty, .tmp q, .tmp u]) (tmps : Array Value) (P : Program) (w : World) :
    (results fn tmps).run P w =
      ((asAddr (tmps.getD p undef)).run P w).andThen fun a w₁ => ((loadVar ty a).run P w₁).andThen fun v w₂ => .ok (.tuple #[v, tmps.getD q undef, tmps.getD u undef]) w₂ := by
  simp only [results, h]
  simp [Sem.run_bind, Result.andThen]
/-- A value is a record of a sign and limbs. -/
def RawV (w : World) (v : Value) (x : Raw) : Prop := ∃ A l c, v = .agg #[.bool x.1, .slice A l c] ∧ l = x.2.length ∧ l ≤ c ∧ Lim w w.heap.size A x.2
theorem RawAt.rawV {w : World} {base : Nat} {v : Value} {x : Raw} (h : RawAt w base v x) : RawV w v x := by
  obtain ⟨A, l, c, rfl, hl, hc, hlim, _⟩ := h
  exact ⟨A, l, c, rfl, hl, hc, hlim⟩
theorem RawV.below {w w' : World} {v : Value} {x : Raw} (h : RawV w v x) (hb : Below w.heap.size w w') : RawV w' v x := by
  obtain ⟨A, l, c, rfl, hl, hc, hlim⟩ := h
  exact ⟨A, l, c, rfl, hl, hc, (hlim.below hb).more hb.size⟩
theorem RawV.drewN {w : World} {v : Value} {x : Raw} (h : RawV w v x) (n : Nat) : RawV (w.drewN n) v x := by
  obtain ⟨A, l, c, rfl, hl, hc, hlim⟩ := h
  exact ⟨A, l, c, rfl, hl, hc, hlim.drewN n⟩
theorem RawV.none (w : World) : RawV w none2 (false, []) := ⟨Option.none, 0, 0, rfl, rfl, Nat.le_refl _, Lim.nil _ _ _⟩
theorem RawV.int {w : World} {v : Value} {z : Int} (h : RawV w v (rawOf z)) : IntV w v z := h
theorem IntV.raw {w : World} {v : Value} {z : Int} (h : IntV w v z) : RawV w v (rawOf z) := h
theorem RawV.open {w : World} {v : Value} {x : Raw} (h : RawV w v x) : ∃ b A l c, v = .agg #[.bool b, .slice A l c] ∧ Hid (RawV w (.agg #[.bool b, .slice A l c]) x) := by
  obtain ⟨A, l, c, rfl, hl, hc, hlim⟩ := h
  exact ⟨x.1, A, l, c, rfl, Lib.hid ⟨A, l, c, rfl, hl, hc, hlim⟩⟩
theorem RawV.parts {w : World} {b : Bool} {A : Option Addr} {l c : Nat} {x : Raw} (h : RawV w (.agg #[.bool b, .slice A l c]) x) : b = x.1 ∧ l = x.2.length ∧ l ≤ c ∧ Lim w w.heap.size A x.2 := by
  obtain ⟨A', l', c', hv, hl, hc, hlim⟩ := h
  injection hv with hv
  have h0 := congrArg (fun a => a[0]?) hv
  have h1 := congrArg (fun a => a[1]?) hv
  simp at h0 h1
  obtain ⟨rfl, rfl, rfl⟩ := h1
  exact ⟨h0, hl, hc, hlim⟩
/-- A record that is right is that of a whole number. -/
theorem right_int_of {b : Bool} {xs : List Nat} (hs : Small xs) (h : rightInt (b, xs) = true) : ∃ z : Int, ((b, xs) : Raw) = rawOf z ∧ lc z.natAbs = xs.length ∧ xs.length ≤ 4096 := by
  have hn : Norm xs ∧ xs.length ≤ 4096 ∧ (xs = [] → b = false) := by
    unfold rightInt at h
    simp only at h
    rcases hx : xs with _ | ⟨y, ys⟩
    · subst hx
      refine ⟨.inl rfl, by simp, fun _ => ?_⟩
      simpa using h
    · have e1 : (xs.length == 0) = false := by rw [hx]; rfl
      rw [e1] at h
      simp only [Bool.false_and, Bool.false_or, Bool.and_eq_true, bne, decide_eq_true_eq, Bool.not_eq_true'] at h
      rw [← hx]
      refine ⟨.inr ?_, h.1.2, fun h2 => by rw [hx] at h2; exact absurd h2 (by simp)⟩
      have h2 := h.2
      intro h3
      rw [h3] at h2
      exact absurd h2 (by decide)
  have he := eq_limbs hs hn.1
  refine ⟨signed b (val xs), ?_, ?_, hn.2.1⟩
  · unfold rawOf
    rw [signed_natAbs, ← he, signed_neg]
    by_cases h0 : xs = []
    · rw [hn.2.2 h0]; simp
    · have h1 : val xs ≠ 0 := fun h2 => h0 (by rw [he, h2, limbs_zero])
      simp [h1]
  · rw [signed_natAbs]
    unfold lc
    rw [← he]
theorem Lim.lit (W : World) (x : Nat) (hx : x < W64) : Lim (W.alloc (.cells #[.int .u64 (x : Int)] 53)) (W.heap.size + 1) (some ⟨W.heap.size, 0, none⟩) [x] := by
  have ho : Own (W.alloc (.cells #[.int .u64 (x : Int)] 53)) W.heap.size (.slice (some ⟨W.heap.size, 0, none⟩) 1 1) [x] :=
    ⟨Small.one hx, rfl, .inr ⟨W.heap.size, 1, _, rfl, Nat.le_refl _, heap_alloc_new W _, Nat.le_refl _, by simp only [maxLen]; omega, rfl, rfl⟩⟩
  obtain ⟨A, c, e, hc, hlim, _⟩ := ho.form
  injection e with e1 e2 e3
  subst e1
  have h : (W.alloc (.cells #[.int .u64 (x : Int)] 53)).heap.size = W.heap.size + 1 := by simp
  rwa [h] at hlim
theorem raw_small {x : Int} (h0 : x ≠ 0) (h : x.natAbs < W64) : rawOf x = (decide (x < 0), [x.natAbs]) := by
  unfold rawOf; rw [limbs_of_small h (by omega)]
theorem IntV.abs {w : World} {s : Bool} {A : Option Addr} {l c : Nat} {z : Int} (h : IntV w (.agg #[.bool s, .slice A l c]) z) : IntV w (.agg #[.bool false, .slice A l c]) (z.natAbs : Int) := by
  obtain ⟨h1, h2, h3, h4⟩ := h.parts
  exact ⟨A, l, c, by rw [decide_eq_false (by omega)], by rw [Int.natAbs_natCast]; exact h2, h3, by rw [Int.natAbs_natCast]; exact h4⟩
theorem raw_one : rawOf 1 = (false, [1]) := raw_small (by decide) (by rw [W64_eq]; decide)
theorem kit_raw (u v : Value) (x y : Raw) (w : World) (hu : RawV w u x) (hv : RawV w v y) (hl : x.2.length ≤ 1099511627776) :
    Calls Try.prog 19 #[u, v] w fun e w' => e = .returned (.bool (decide (x = y))) ∧ Below w.heap.size w w' := by
  obtain ⟨A1, l1, c1, rfl, e1, _, h1⟩ := hu
  obtain ⟨A2, l2, c2, rfl, e2, _, h2⟩ := hv
  exact kit_int x.1 y.1 A1 A2 l1 l2 c1 c2 x.2 y.2 w (Nat.le_refl _) (Nat.le_refl _) h1 h2 e1 e2 (by omega)
end Go.Proofs.Ytonbhpadoplpkaa
