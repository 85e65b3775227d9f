import Derived.Test.YtonbhpadoplpkaaPoly
import Derived.Test.YtonbhpadoplpkaaLaw2
/- Records of a sign and limbs, in memory and as values. -/
namespace Go.Proofs.Ytonbhpadoplpkaa
open Go.RowKit Go.Deep
/-- A value is the record of a sign and limbs; the limbs are nil or lie in a block from base on, their room too. -/
def RawAt (w : World) (base : Nat) (v : Value) (x : Raw) : Prop :=
  ∃ A l c, v = .agg #[.bool x.1, .slice A l c] ∧ l = x.2.length ∧ l ≤ c ∧ Lim w w.heap.size A x.2 ∧ ((A = none ∧ c = 0) ∨ ∃ g cs, A = some ⟨g, 0, none⟩ ∧ base ≤ g ∧ w.heap[g]? = some (.cells cs 53 (0, 0)) ∧ c ≤ cs.size)
/-- The limbs' slice lies apart from what was before base. -/
def Fresh (w : World) (base : Nat) (A : Option Addr) (c : Nat) : Prop := (A = none ∧ c = 0) ∨ ∃ g cs, A = some ⟨g, 0, none⟩ ∧ base ≤ g ∧ w.heap[g]? = some (.cells cs 53 (0, 0)) ∧ c ≤ cs.size
theorem Fresh.cut {w : World} {base : Nat} {A : Option Addr} {c c' : Nat} (h : Fresh w base A c) (hc : c' ≤ c) : Fresh w base A c' := by
  rcases h with ⟨h1, h2⟩ | ⟨g, cs, h1, h2, h3, h4⟩
  · exact .inl ⟨h1, by omega⟩
  · exact .inr ⟨g, cs, h1, h2, h3, by omega⟩
theorem Fresh.below {w w' : World} {base : Nat} {A : Option Addr} {c : Nat} (h : Fresh w base A c) (hb : Below w.heap.size w w') : Fresh w' base A c := by
  rcases h with h | ⟨g, cs, h1, h2, h3, h4⟩
  · exact .inl h
  · exact .inr ⟨g, cs, h1, h2, by rw [hb.block g (Array.getElem?_eq_some_iff.1 h3).1]; exact h3, h4⟩
theorem Fresh.since {w : World} {base base' : Nat} {A : Option Addr} {c : Nat} (h : Fresh w base A c) (hb : base' ≤ base) : Fresh w base' A c := by
  rcases h with h | ⟨g, cs, h1, h2, h3, h4⟩
  · exact .inl h
  · exact .inr ⟨g, cs, h1, by omega, h3, h4⟩
theorem Own.fresh {w : World} {base : Nat} {A : Option Addr} {l c : Nat} {xs : List Nat} (h : Own w base (.slice A l c) xs) : Fresh w base A c := by
  rcases h.own.2 with ⟨hv, _⟩ | ⟨g, cap, cur, hv, hg, hh, hnc, h63, hcap, hpre⟩
  · injection hv with h1 h2 h3
    exact .inl ⟨h1, h3⟩
  · injection hv with h1 h2 h3
    exact .inr ⟨g, cur, h1, hg, hh, by omega⟩
theorem RawAt.of {w w' : World} {base : Nat} {A : Option Addr} {l c : Nat} {x : Raw} (h : Lim w w.heap.size A x.2) (hf : Fresh w base A c) (hl : l = x.2.length) (hc : l ≤ c) (hb : Below w.heap.size w w') : RawAt w' base (.agg #[.bool x.1, .slice A l c]) x :=
  ⟨A, l, c, rfl, hl, hc, (h.below hb).more hb.size, hf.below hb⟩
theorem RawAt.zero (w : World) (base : Nat) : RawAt w base (.agg #[.bool false, .slice none 0 0]) (false, []) := ⟨none, 0, 0, rfl, rfl, Nat.le_refl _, Lim.nil _ _ _, .inl ⟨rfl, rfl⟩⟩
theorem RawAt.below {w w' : World} {base : Nat} {v : Value} {x : Raw} (h : RawAt w base v x) (hb : Below w.heap.size w w') : RawAt w' base v x := by
  obtain ⟨A, l, c, rfl, hl, hc, hlim, hf⟩ := h
  exact RawAt.of hlim hf hl hc hb
theorem RawAt.since {w : World} {base base' : Nat} {v : Value} {x : Raw} (h : RawAt w base v x) (hb : base' ≤ base) : RawAt w base' v x := by
  obtain ⟨A, l, c, rfl, hl, hc, hlim, hf⟩ := h
  exact ⟨A, l, c, rfl, hl, hc, hlim, Fresh.since hf hb⟩
/-- A record's box. -/
def Box2 (w : World) (g : Nat) (x y : Value) : Prop := w.heap[g]? = some (.cells #[x, y] 24 (0, 0))
section
variable {w w' : World} {g : Nat} {x y a b : Value}
theorem Box2.cell0 (h : Box2 w g x y) : w.cell? ⟨g, 0, none⟩ = some x := by rw [cell_of_row w g 0 _ _ (0, 0) h]; rfl
theorem Box2.cell1 (h : Box2 w g x y) : w.cell? ⟨g, 1, none⟩ = some y := by rw [cell_of_row w g 1 _ _ (0, 0) h]; rfl
theorem Box2.free (h : Box2 w g x y) (k : Nat) : w.frozen? ⟨g, k, none⟩ = false := by unfold Box2 at h; simp [World.frozen?, h]
theorem Box2.lt (h : Box2 w g x y) : g < w.heap.size := (Array.getElem?_eq_some_iff.1 h).1
theorem Box2.store (h : Box2 w g x y) : Box2 ((w.setCell ⟨g, 0, none⟩ a).setCell ⟨g, 1, none⟩ b) g a b := by
  unfold Box2 at h ⊢
  simp [World.setCell, Array.getElem?_modify, h]
theorem Box2.store1 (h : Box2 w g x y) : Box2 (w.setCell ⟨g, 1, none⟩ b) g x b := by
  unfold Box2 at h ⊢
  simp [World.setCell, Array.getElem?_modify, h]
theorem Box2.below {B : Nat} (h : Box2 w g x y) (hb : Below B w w') (hg : g < B) : Box2 w' g x y := by
  unfold Box2 at h ⊢
  rw [hb.block g hg]; exact h
theorem store2_below {B : Nat} (hb : Below B w w') (hg : B ≤ g) : Below B w ((w'.setCell ⟨g, 0, none⟩ a).setCell ⟨g, 1, none⟩ b) :=
  (hb.setCell (p := ⟨g, 0, none⟩) hg _).setCell (p := ⟨g, 1, none⟩) hg _
/-- A result's box, new. -/
theorem box_new (w : World) (x y : Value) : ∃ W0 r, w.alloc (.cells #[x, y] 24) = W0 ∧ w.heap.size = r ∧ Box2 W0 r x y ∧ Below r w W0 ∧ W0.heap.size = r + 1 :=
  ⟨_, _, rfl, rfl, heap_alloc_new w _, (Below.refl _ _).alloc (Nat.le_refl _) _, by simp⟩
end
theorem Box2.noNum {w : World} {g : Nat} {x y : Value} (h : Box2 w g x y) (hx : ∀ k : Int, x ≠ .int .u64 k) (hy : ∀ k : Int, y ≠ .int .u64 k) : NoNum w g := by
  intro p hp n
  obtain ⟨pb, off, m⟩ := p
  obtain rfl : pb = g := hp
  unfold Box2 at h
  unfold World.cell?
  simp only [h]
  split
  · simp
  · rcases off with _ | _ | off
    · simpa using hx n
    · simpa using hy n
    · simp
theorem Box2.nums {w : World} {g : Nat} {b : Bool} {A : Option Addr} {l c : Nat} (h : Box2 w g (.bool b) (.slice A l c)) : NoNum w g := h.noNum (fun _ => by simp) (fun _ => by simp)
theorem ext_store2 {w : World} {g : Nat} {a b : Value} (h : NoNum w g) : Ext (· = g) w ((w.setCell ⟨g, 0, none⟩ a).setCell ⟨g, 1, none⟩ b) := by
  refine ⟨rfl, rfl, rfl, by simp, fun i hi hn => ?_, fun i hi _ => by subst hi; exact h⟩
  rw [Below.heap_setCell _ _ _ i (by simpa using hn), Below.heap_setCell _ _ _ i (by simpa using hn)]
theorem Fresh.ext {G : Nat → Prop} {w w' : World} {base : Nat} {A : Option Addr} {c : Nat} (h : Fresh w base A c) (e : Ext G w w') (hG : ∀ i, G i → i < base) : Fresh w' base A c := by
  rcases h with h | ⟨g, cs, h1, h2, h3, h4⟩
  · exact .inl h
  · exact .inr ⟨g, cs, h1, h2, by rw [e.block g (Array.getElem?_eq_some_iff.1 h3).1 (fun hg => by have := hG g hg; omega)]; exact h3, h4⟩
theorem RawAt.ext {G : Nat → Prop} {w w' : World} {base : Nat} {v : Value} {x : Raw} (h : RawAt w base v x) (e : Ext G w w') (hG : ∀ i, G i → i < base) : RawAt w' base v x := by
  obtain ⟨A, l, c, rfl, hl, hc, hlim, hf⟩ := h
  exact ⟨A, l, c, rfl, hl, hc, (hlim.ext (Nat.le_refl _) e).more e.size, Fresh.ext hf e hG⟩
/-- Its parts by name, what is known of them put away. -/
theorem RawAt.open {w : World} {base : Nat} {v : Value} {x : Raw} (h : RawAt w base v x) : ∃ b A l c, v = .agg #[.bool b, .slice A l c] ∧ Hid (RawAt w base (.agg #[.bool b, .slice A l c]) x) := by
  obtain ⟨A, l, c, rfl, hl, hc, hlim, hf⟩ := h
  exact ⟨x.1, A, l, c, rfl, Lib.hid ⟨A, l, c, rfl, hl, hc, hlim, hf⟩⟩
/-- A value is the record of a whole number. -/
def IntV (w : World) (v : Value) (z : Int) : Prop :=
  ∃ A l c, v = .agg #[.bool (decide (z < 0)), .slice A l c] ∧ l = (limbs z.natAbs).length ∧ l ≤ c ∧ Lim w w.heap.size A (limbs z.natAbs)
theorem RawAt.int {w : World} {base : Nat} {v : Value} {z : Int} (h : RawAt w base v (rawOf z)) : IntV w v z := by
  obtain ⟨A, l, c, rfl, hl, hc, hlim, _⟩ := h
  exact ⟨A, l, c, rfl, hl, hc, hlim⟩
theorem IntV.below {w w' : World} {v : Value} {z : Int} (h : IntV w v z) (hb : Below w.heap.size w w') : IntV w' v z := by
  obtain ⟨A, l, c, rfl, hl, hc, hlim⟩ := h
  exact ⟨A, l, c, rfl, hl, hc, (hlim.below hb).more hb.size⟩
theorem right_of {z : Int} (h : lc z.natAbs ≤ 4096) : rightInt (decide (z < 0), limbs z.natAbs) = true := by
  unfold lc at h
  unfold rightInt
  simp only
  rcases norm_limbs z.natAbs with h0 | h0
  · rw [h0]
    have h1 := limbs_eq_nil.1 h0
    rw [decide_eq_false (by omega)]
    rfl
  · by_cases h1 : (limbs z.natAbs).length = 0
    · have h2 := limbs_eq_nil.1 (List.eq_nil_of_length_eq_zero h1)
      rw [decide_eq_false (by omega), h1]
      rfl
    · rw [decide_eq_true h]
      have e1 : ((limbs z.natAbs).length == 0) = false := beq_eq_false_iff_ne.2 h1
      have e2 : ((limbs z.natAbs).getD ((limbs z.natAbs).length - 1) 0 != 0) = true := by simpa using h0
      rw [e2]
      simp [bne, e1]
/-- Two boxes. -/
theorem box_two (w : World) (x y x' y' : Value) : ∃ W0 g r, (w.alloc (.cells #[x, y] 24)).alloc (.cells #[x', y'] 24) = W0 ∧ w.heap.size = g ∧ w.heap.size + 1 = r ∧ g + 1 = r ∧ Box2 W0 g x y ∧ Box2 W0 r x' y' ∧ Below g w W0 ∧ W0.heap.size = g + 2 := by
  refine ⟨_, _, _, rfl, rfl, rfl, rfl, ?_, ?_, ((Below.refl _ _).alloc (Nat.le_refl _) _).alloc (by simp) _, by simp⟩
  · unfold Box2
    rw [Below.heap_alloc _ _ _ (by simp)]; exact heap_alloc_new w _
  · have h := heap_alloc_new (w.alloc (.cells #[x, y] 24)) (.cells #[x', y'] 24)
    unfold Box2
    simpa using h
/-- The answer where a thing is refused. -/
def none2 : Value := .agg #[.bool false, .slice none 0 0]
theorem Box2.far {w : World} {g h : Nat} {x y a b : Value} (hb : Box2 w g x y) (hg : h ≠ g) : Box2 ((w.setCell ⟨h, 0, none⟩ a).setCell ⟨h, 1, none⟩ b) g x y := by
  unfold Box2 at hb ⊢
  rw [Below.heap_setCell _ _ _ g (by simpa using hg.symm), Below.heap_setCell _ _ _ g (by simpa using hg.symm)]
  exact hb
theorem box_three (w : World) (x y x' y' x2 y2 : Value) : ∃ W0 g h r, ((w.alloc (.cells #[x, y] 24)).alloc (.cells #[x', y'] 24)).alloc (.cells #[x2, y2] 24) = W0 ∧ w.heap.size = g ∧ w.heap.size + 1 = h ∧ w.heap.size + 1 + 1 = r ∧ (g + 1 = h ∧ g + 2 = r) ∧ Box2 W0 g x y ∧ Box2 W0 h x' y' ∧ Box2 W0 r x2 y2 ∧ Below g w W0 ∧ W0.heap.size = g + 3 := by
  obtain ⟨W1, g, h, hW, hg, hh, hgh, b1, b2, hb, hs⟩ := box_two w x y x' y'
  obtain ⟨W2, r, hW2, hr, b3, hb2, hs2⟩ := box_new W1 x2 y2
  rw [hW, hW2]
  have hb2' : Below g W1 W2 := hb2.mono (by omega)
  have hb2'' : Below W1.heap.size W1 W2 := by rw [hr]; exact hb2
  exact ⟨_, _, _, _, rfl, hg, hh, by omega, ⟨hgh, rfl⟩, b1.below hb2'' b1.lt, b2.below hb2'' b2.lt, by
    have e : r = g + 2 := by omega
    subst e; exact b3, hb.trans hb2', by omega⟩
theorem Fresh.set {w : World} {base : Nat} {A : Option Addr} {c : Nat} (h : Fresh w base A c) (g k : Nat) (u : Value) : Fresh (w.setCell ⟨g, k, none⟩ u) base A c := by
  rcases h with h | ⟨g', cs, h1, h2, h3, h4⟩
  · exact .inl h
  · by_cases hg : g = g'
    · subst hg
      exact .inr ⟨g, cs.setIfInBounds k u, h1, h2, by simp [World.setCell, Array.getElem?_modify, h3], by simpa using h4⟩
    · exact .inr ⟨g', cs, h1, h2, by rw [Below.heap_setCell _ _ _ g' (by simpa using fun e => hg e.symm)]; exact h3, h4⟩
theorem Fresh.made (w : World) (n : Nat) : Fresh (w.alloc (.cells (madeCells #[.int .u64 0] n) 53)) w.heap.size (some ⟨w.heap.size, 0, none⟩) n :=
  .inr ⟨_, _, rfl, Nat.le_refl _, heap_alloc_new w _, by simp [size_madeCells]⟩
theorem IntV.open {w : World} {v : Value} {z : Int} (h : IntV w v z) : ∃ b A l c, v = .agg #[.bool b, .slice A l c] ∧ Hid (IntV w (.agg #[.bool b, .slice A l c]) z) := by
  obtain ⟨A, l, c, rfl, hl, hc, hlim⟩ := h
  exact ⟨_, A, l, c, rfl, Lib.hid ⟨A, l, c, rfl, hl, hc, hlim⟩⟩
set_option maxRecDepth 100000 in
/-- A copy is the call's own. -/
theorem clone_own (A : Option Addr) (c : Nat) (xs : List Nat) (w : World) {B : Nat} (hB : B ≤ w.heap.size) (h1 : Lim w B A xs) (hc : xs.length ≤ c) (hl : xs.length ≤ 1099511627776) :
    Calls Try.prog 42 #[.slice A xs.length c] w fun e w' => ∃ A' c', e = .returned (.slice A' xs.length c') ∧ xs.length ≤ c' ∧ Lim w' w'.heap.size A' xs ∧ Fresh w' w.heap.size A' c' ∧ Below w.heap.size w w' := by
  have HL := Lib.hid hl
  have HC := Lib.hid hc
  clear hl hc
  cases A with
  | none =>
    have hx : xs = [] := by
      rcases xs with _ | ⟨x, xs⟩
      · rfl
      · obtain ⟨ad, e, _⟩ := h1.cells (by simp)
        cases e
    subst hx
    have hnil : ∀ W, (binOp .eql 22 (.slice none 0 c) (.slice none 0 0)).run Try.prog W = .ok (.bool true) W := fun W => Lib.run_eql_slice_nil W _ 53 none 0 c 0 0 (by kernel_rfl)
    go_enter Try.func42, Try.ntmps42
    go_wp2_with fail
    go_ret
    exact ⟨none, 0, rfl, by simp, Lim.nil _ _ _, .inl ⟨rfl, rfl⟩, Below.refl _ _⟩
  | some ad =>
    have hnil : ∀ W, (binOp .eql 22 (.slice (some ad) xs.length c) (.slice none 0 0)).run Try.prog W = .ok (.bool false) W := fun W => Lib.run_eql_slice_nil W _ 53 (some ad) xs.length c 0 0 (by kernel_rfl)
    go_enter Try.func42, Try.ntmps42
    have HO : Own (w.alloc (.cells #[] 53)) w.heap.size (.slice (some ⟨w.heap.size, 0, none⟩) 0 0) [] := by
      have h := Own.made w w.heap.size 0 0 (Nat.le_refl _) (Nat.le_refl _) (by omega)
      rwa [show madeCells #[.int .u64 0] 0 = #[] by simp [madeCells]] at h
    have HB : Below w.heap.size w (w.alloc (.cells #[] 53)) := (Below.refl _ _).alloc (Nat.le_refl _) _
    go_wp2_with (at_builtin; refine append_lim (w0 := w) w.heap.size rfl _ _ rfl _ [] (some ad) xs.length c xs (by rfl) (by rfl) rfl (h1.alloc hB _) HO HB HB.size (by have := HL.out; simp; omega) fun v1 w1 hown hbel hgrow _ => ?_)
    obtain ⟨A, c', hv, hc', hlim, _⟩ := hown.form
    rw [hv]
    rw [hv] at hown
    go_wp2_with fail
    go_ret
    exact ⟨A, c', by rfl, by simpa using hc', by simpa using hlim, hown.fresh, hbel⟩
theorem Box2.ext {G : Nat → Prop} {w w' : World} {g : Nat} {x y : Value} (h : Box2 w g x y) (e : Ext G w w') (hg : ¬ G g) : Box2 w' g x y := by
  have hl := h.lt
  unfold Box2 at h ⊢
  rw [e.block g hl hg]; exact h
theorem Box2.drewN {w : World} {g : Nat} {x y : Value} (h : Box2 w g x y) (n : Nat) : Box2 (w.drewN n) g x y := h
theorem RawAt.store2 {w : World} {base h : Nat} {v : Value} {x : Raw} (hr : RawAt w base v x) (hn : NoNum w h) (a b : Value) : RawAt ((w.setCell ⟨h, 0, none⟩ a).setCell ⟨h, 1, none⟩ b) base v x := by
  obtain ⟨A, l, c, rfl, hl, hc, hlim, hf⟩ := hr
  have e := ext_store2 (a := a) (b := b) hn
  exact ⟨A, l, c, rfl, hl, hc, (hlim.ext (Nat.le_refl _) e).more e.size, Fresh.set (Fresh.set hf h 0 a) h 1 b⟩
end Go.Proofs.Ytonbhpadoplpkaa
