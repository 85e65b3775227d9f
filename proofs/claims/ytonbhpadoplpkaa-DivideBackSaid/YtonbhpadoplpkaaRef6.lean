import Derived.Test.YtonbhpadoplpkaaRef4
/- The package rosetteref00: Times, Plus, Less. -/
namespace Go.Proofs.Ytonbhpadoplpkaa
open Go.RowKit Go.Deep
theorem Box3.noNum {w : World} {g : Nat} {x y z : Value} {t : TypeId} (h : Box3 w g t x y z) (hx : ∀ k : Int, x ≠ .int .u64 k) (hy : ∀ k : Int, y ≠ .int .u64 k) (hz : ∀ k : Int, z ≠ .int .u64 k) : NoNum w g := by
  intro p hp n
  obtain ⟨pb, off, m⟩ := p
  obtain rfl : pb = g := hp
  unfold Box3 at h
  unfold World.cell?
  simp only [h]
  split
  · simp
  · rcases off with _ | _ | _ | off
    · simpa using hx n
    · simpa using hy n
    · simpa using hz n
    · simp
theorem ext_store3 {w : World} {g : Nat} {a b c : Value} (h : NoNum w g) : Ext (· = g) w (((w.setCell ⟨g, 0, none⟩ a).setCell ⟨g, 1, none⟩ b).setCell ⟨g, 2, none⟩ c) := by
  refine ⟨rfl, rfl, rfl, by simp, fun i _ hi => ?_, fun i hi _ => by subst hi; exact h⟩
  rw [Below.heap_setCell _ _ _ i (by simpa using hi), Below.heap_setCell _ _ _ i (by simpa using hi), Below.heap_setCell _ _ _ i (by simpa using hi)]
theorem boxes3 (w : World) (x0 x1 x2 y0 y1 y2 r0 r1 r2 : Value) (t : TypeId) : ∃ (W : World) (g h r : Nat), ((w.alloc (.cells #[x0, x1, x2] t)).alloc (.cells #[y0, y1, y2] t)).alloc (.cells #[r0, r1, r2] t) = W ∧ w.heap.size = g ∧ w.heap.size + 1 = h ∧ w.heap.size + 1 + 1 = r ∧
    Box3 W g t x0 x1 x2 ∧ Box3 W h t y0 y1 y2 ∧ Box3 W r t r0 r1 r2 ∧ Below w.heap.size w W := by
  refine ⟨_, _, _, _, rfl, rfl, rfl, rfl, ?_, ?_, ?_, (((Below.refl _ w).alloc (Nat.le_refl _) _).alloc (by simp) _).alloc (by simp; omega) _⟩
  · unfold Box3
    rw [Below.heap_alloc _ _ _ (by simp; omega), Below.heap_alloc _ _ _ (by simp)]; exact heap_alloc_new w _
  · unfold Box3
    rw [Below.heap_alloc _ _ _ (by simp)]
    have h := heap_alloc_new (w.alloc (.cells #[x0, x1, x2] t)) (.cells #[y0, y1, y2] t)
    simpa using h
  · unfold Box3
    have h := heap_alloc_new ((w.alloc (.cells #[x0, x1, x2] t)).alloc (.cells #[y0, y1, y2] t)) (.cells #[r0, r1, r2] t)
    simpa using h
theorem signed_mul' (a b : Bool) (m n : Nat) : signed (a != b) (m * n) = signed a m * signed b n := by
  cases a <;> cases b <;> simp [signed, Int.natCast_mul, Int.neg_mul, Int.mul_neg]
theorem signed_add_same (b : Bool) (m n : Nat) : signed b m + signed b n = signed b (m + n) := by
  cases b
  · show (m : Int) + (n : Int) = ((m + n : Nat) : Int); omega
  · show -(m : Int) + -(n : Int) = -((m + n : Nat) : Int); omega
theorem signed_add_ge {b b2 : Bool} {m n : Nat} (hb : (b == b2) = false) (h : n ≤ m) : signed b m + signed b2 n = signed b (m - n) := by
  cases b <;> cases b2
  · cases hb
  · show (m : Int) + -(n : Int) = ((m - n : Nat) : Int); omega
  · show -(m : Int) + (n : Int) = -((m - n : Nat) : Int); omega
  · cases hb
theorem signed_add_lt {b b2 : Bool} {m n : Nat} (hb : (b == b2) = false) (h : m ≤ n) : signed b m + signed b2 n = signed b2 (n - m) := by
  cases b <;> cases b2
  · cases hb
  · show (m : Int) + -(n : Int) = -((n - m : Nat) : Int); omega
  · show -(m : Int) + (n : Int) = ((n - m : Nat) : Int); omega
  · cases hb
end Go.Proofs.Ytonbhpadoplpkaa
/- The package rosetteref00: Top, Whole, TellInt. -/
namespace Go.Proofs.Ytonbhpadoplpkaa
open Go.RowKit Go.Deep
set_option maxRecDepth 100000 in
theorem ref_of (x : Nat) (w : World) (hx : x < W64) :
    Calls Try.prog 67 #[.int .u64 (x : Int)] w fun e w' => ∃ v, e = .returned v ∧ Own w' w.heap.size v (limbs x) ∧ Below w.heap.size w w' := by
  have HX := Lib.hid hx
  clear hx
  go_enter Try.func67, Try.ntmps67
  go_wp2_with fail
  have hb : Below w.heap.size w (w.alloc (.cells #[.int .u64 (x : Int)] 53)) := (Below.refl _ w).alloc (Nat.le_refl _) _
  have ho : Own (w.alloc (.cells #[.int .u64 (x : Int)] 53)) w.heap.size (.slice (some ⟨w.heap.size, 0, none⟩) 1 1) [x] :=
    ⟨Small.one HX.out, rfl, .inr ⟨w.heap.size, 1, _, rfl, Nat.le_refl _, heap_alloc_new w _, Nat.le_refl _, by simp only [maxLen]; omega, rfl, rfl⟩⟩
  obtain ⟨A, c, e, hc, hlim, _⟩ := ho.form
  injection e with e1 e2 e3
  subst e1 e3
  clear e2
  refine (ref_trim (some ⟨w.heap.size, 0, none⟩) 1 1 [x] _ hlim rfl (Nat.le_refl _) (by omega)).mono ?_
  rintro e w1 ⟨v, rfl, ho1, hb1⟩
  rw [show val [x] = x by simp [val]] at ho1
  go_wp2_with fail
  go_ret
  exact ⟨v, rfl, ho1.mono hb.size, hb.trans (hb1.mono hb.size)⟩
theorem box2_store {W : World} {g : Nat} {x y a b : Value} {t : TypeId} (h : W.heap[g]? = some (.cells #[x, y] t (0, 0))) : ((W.setCell ⟨g, 0, none⟩ a).setCell ⟨g, 1, none⟩ b).heap[g]? = some (.cells #[a, b] t (0, 0)) := by
  simp [World.setCell, Array.getElem?_modify, h]
end Go.Proofs.Ytonbhpadoplpkaa
