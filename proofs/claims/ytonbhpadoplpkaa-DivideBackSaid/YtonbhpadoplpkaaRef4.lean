import Derived.Test.YtonbhpadoplpkaaRef3
/- The package rosetteref00: natural numbers: NatUp. -/
namespace Go.Proofs.Ytonbhpadoplpkaa
open Go.RowKit Go.Deep
theorem up_step {P d x c b s o : Nat} (h : o + c * P = d * b) (hs : x * b + c = s) : o + P * (s % W32) + s / W32 * (P * W32) = (d + P * x) * b := by
  have h2 := Nat.mod_add_div s W32
  have e1 : s / W32 * (P * W32) = P * (W32 * (s / W32)) := by ac_rfl
  have e2 : c * P = P * c := Nat.mul_comm _ _
  have e3 : (d + P * x) * b = d * b + P * (x * b) := by rw [Nat.add_mul]; congr 1; ac_rfl
  rw [e1, e3]
  rw [e2] at h
  have h4 : P * (s % W32 + W32 * (s / W32)) = P * (x * b + c) := by rw [h2, hs]
  rw [Nat.mul_add, Nat.mul_add] at h4
  omega
theorem pow_mod_lt (n : Nat) : 2 ^ (n % 32) ≤ 2147483648 := by
  have h := Nat.pow_le_pow_right (n := 2) (by omega) (show n % 32 ≤ 31 by omega)
  exact h
end Go.Proofs.Ytonbhpadoplpkaa
/- The package rosetteref00: numbers of any sign. -/
namespace Go.Proofs.Ytonbhpadoplpkaa
open Go.RowKit Go.Deep
/-- The value v is the number z (of exponent 0). -/
def NumAt (w : World) (v : Value) (z : Int) : Prop :=
  ∃ b A l c, v = .agg #[.bool b, .slice A l c, .int .i64 0] ∧ l = (limbs z.natAbs).length ∧ l ≤ c ∧ Lim w w.heap.size A (limbs z.natAbs) ∧ signed b z.natAbs = z ∧ Own w 0 (.slice A l c) (limbs z.natAbs)
/-- .. its limbs lent: they need lie in no row of their own. -/
def NumL (w : World) (v : Value) (z : Int) : Prop :=
  ∃ b A l c, v = .agg #[.bool b, .slice A l c, .int .i64 0] ∧ l = (limbs z.natAbs).length ∧ l ≤ c ∧ Lim w w.heap.size A (limbs z.natAbs) ∧ signed b z.natAbs = z
theorem NumL.below {w w' : World} {v : Value} {z : Int} (h : NumL w v z) (hb : Below w.heap.size w w') : NumL w' v z := by
  obtain ⟨b, A, l, c, e, hl, hc, hlim, hs⟩ := h
  exact ⟨b, A, l, c, e, hl, hc, (hlim.below hb).more hb.size, hs⟩
theorem NumAt.lend {w : World} {v : Value} {z : Int} (h : NumAt w v z) : NumL w v z := by
  obtain ⟨b, A, l, c, e, hl, hc, hlim, hs, _⟩ := h
  exact ⟨b, A, l, c, e, hl, hc, hlim, hs⟩
theorem NumAt.below {w w' : World} {v : Value} {z : Int} (h : NumAt w v z) (hb : Below w.heap.size w w') : NumAt w' v z := by
  obtain ⟨b, A, l, c, e, hl, hc, hlim, hs, ho⟩ := h
  exact ⟨b, A, l, c, e, hl, hc, (hlim.below hb).more hb.size, hs, ho.below hb⟩
theorem NumAt.of {w : World} {b : Bool} {A : Option Addr} {l c n : Nat} (hl : l = (limbs n).length) (hc : l ≤ c) (hlim : Lim w w.heap.size A (limbs n)) (ho : Own w 0 (.slice A l c) (limbs n)) : NumAt w (.agg #[.bool b, .slice A l c, .int .i64 0]) (signed b n) :=
  ⟨b, A, l, c, rfl, by rw [signed_natAbs]; exact hl, hc, by rw [signed_natAbs]; exact hlim, by rw [signed_natAbs], by rw [signed_natAbs]; exact ho⟩
section
variable {w w' : World} {g : Nat} {x y z a b c : Value} {t : TypeId}
/-- A box of three cells. -/
def Box3 (w : World) (g : Nat) (t : TypeId) (x y z : Value) : Prop := w.heap[g]? = some (.cells #[x, y, z] t (0, 0))
theorem Box3.below {B : Nat} (h : Box3 w g t x y z) (hb : Below B w w') (hg : g < B) : Box3 w' g t x y z := by
  unfold Box3 at h ⊢
  rw [hb.block g hg]; exact h
theorem Box3.cell0 (h : Box3 w g t x y z) : w.cell? ⟨g, 0, none⟩ = some x := by rw [cell_of_row w g 0 _ _ (0, 0) h]; rfl
theorem Box3.cell1 (h : Box3 w g t x y z) : w.cell? ⟨g, 1, none⟩ = some y := by rw [cell_of_row w g 1 _ _ (0, 0) h]; rfl
theorem Box3.cell2 (h : Box3 w g t x y z) : w.cell? ⟨g, 2, none⟩ = some z := by rw [cell_of_row w g 2 _ _ (0, 0) h]; rfl
theorem Box3.free (h : Box3 w g t x y z) (k : Nat) : w.frozen? ⟨g, k, none⟩ = false := by
  unfold Box3 at h
  simp [World.frozen?, h]
theorem Box3.lt (h : Box3 w g t x y z) : g < w.heap.size := (Array.getElem?_eq_some_iff.1 h).1
theorem Box3.store (h : Box3 w g t x y z) : Box3 (((w.setCell ⟨g, 0, none⟩ a).setCell ⟨g, 1, none⟩ b).setCell ⟨g, 2, none⟩ c) g t a b c := by
  unfold Box3 at h ⊢
  simp [World.setCell, Array.getElem?_modify, h]
theorem store3_below {B : Nat} (hb : Below B w w') (hg : B ≤ g) : Below B w (((w'.setCell ⟨g, 0, none⟩ a).setCell ⟨g, 1, none⟩ b).setCell ⟨g, 2, none⟩ c) :=
  ((hb.setCell (p := ⟨g, 0, none⟩) hg _).setCell (p := ⟨g, 1, none⟩) hg _).setCell (p := ⟨g, 2, none⟩) hg _
theorem Box3.new (w : World) (o : Obj) (x y z : Value) (t : TypeId) : Box3 ((w.alloc o).alloc (.cells #[x, y, z] t)) (w.heap.size + 1) t x y z := by
  have h := heap_alloc_new (w.alloc o) (.cells #[x, y, z] t)
  rwa [show (w.alloc o).heap.size = w.heap.size + 1 by simp] at h
end
theorem Lim.store3 {w : World} {B g : Nat} {a b c : Value} {A : Option Addr} {xs : List Nat} (h : Lim w B A xs) (hB : B ≤ g) : Lim (((w.setCell ⟨g, 0, none⟩ a).setCell ⟨g, 1, none⟩ b).setCell ⟨g, 2, none⟩ c) B A xs :=
  h.below (((Below.refl B w |>.setCell (p := ⟨g, 0, none⟩) hB _).setCell (p := ⟨g, 1, none⟩) hB _).setCell (p := ⟨g, 2, none⟩) hB _)
end Go.Proofs.Ytonbhpadoplpkaa
