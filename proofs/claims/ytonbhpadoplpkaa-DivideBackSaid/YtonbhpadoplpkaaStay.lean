import Derived.Test.YtonbhpadoplpkaaRaw
import Derived.Test.YtonbhpadoplpkaaR18
/- What is known of a world stays: one word for all kinds of facts; and stays when a record's box is written. -/
namespace Go.Proofs.Ytonbhpadoplpkaa
open Go.RowKit Go.Deep
/-- Since w0 only new memory was written. -/
abbrev Since (w0 w : World) : Prop := Below w0.heap.size w0 w
theorem Since.stay {w0 w w' : World} (h : Since w0 w) (hb : Below w.heap.size w w') : Since w0 w' := h.trans (hb.mono h.size)
theorem Lim.stay {w w' : World} {A : Option Addr} {xs : List Nat} (h : Lim w w.heap.size A xs) (hb : Below w.heap.size w w') : Lim w' w'.heap.size A xs := (h.below hb).more hb.size
theorem IntV.stay {w w' : World} {v : Value} {z : Int} (h : IntV w v z) (hb : Below w.heap.size w w') : IntV w' v z := h.below hb
theorem RawV.stay {w w' : World} {v : Value} {x : Raw} (h : RawV w v x) (hb : Below w.heap.size w w') : RawV w' v x := h.below hb
theorem RawAt.stay {w w' : World} {base : Nat} {v : Value} {x : Raw} (h : RawAt w base v x) (hb : Below w.heap.size w w') : RawAt w' base v x := h.below hb
theorem NatAt.stay {w w' : World} {v : Value} {n : Nat} (h : NatAt w v n) (hb : Below w.heap.size w w') : NatAt w' v n := h.below hb
theorem Box2.stay {w w' : World} {g : Nat} {x y : Value} (h : Box2 w g x y) (hb : Below w.heap.size w w') : Box2 w' g x y := h.below hb h.lt
theorem Fresh.stay {w w' : World} {base : Nat} {A : Option Addr} {c : Nat} (h : Fresh w base A c) (hb : Below w.heap.size w w') : Fresh w' base A c := h.below hb
theorem IntAt.stay {w w' : World} {g : Nat} {z : Int} (h : IntAt w g z) (hb : Below w.heap.size w w') : IntAt w' g z := h.below hb
/-- So many blocks there are. -/
def Blocks (w : World) (n : Nat) : Prop := n ≤ w.heap.size
theorem Blocks.stay {w w' : World} {n : Nat} (h : Blocks w n) (hb : Below w.heap.size w w') : Blocks w' n := Nat.le_trans h hb.size
/-- A variable of one cell. -/
def Cell1 (w : World) (g : Nat) (x : Value) : Prop := ∃ t, w.heap[g]? = some (.cells #[x] t (0, 0))
theorem Cell1.stay {w w' : World} {g : Nat} {x : Value} (h : Cell1 w g x) (hb : Below w.heap.size w w') : Cell1 w' g x := by
  obtain ⟨t, h⟩ := h
  exact ⟨t, by rw [hb.block g (Array.getElem?_eq_some_iff.1 h).1]; exact h⟩
theorem Cell1.cell0 {w : World} {g : Nat} {x : Value} (h : Cell1 w g x) : w.cell? ⟨g, 0, none⟩ = some x := by
  obtain ⟨t, h⟩ := h
  rw [cell_of_row w g 0 _ _ (0, 0) h]; rfl
theorem Cell1.free {w : World} {g : Nat} {x : Value} (h : Cell1 w g x) (k : Nat) : w.frozen? ⟨g, k, none⟩ = false := by
  obtain ⟨t, h⟩ := h
  simp [World.frozen?, h]
/-- A record's box was written. -/
structure Put (g : Nat) (w w' : World) : Prop where
  ext : Ext (· = g) w w'
  fresh : ∀ (base : Nat) (A : Option Addr) (c : Nat), Fresh w base A c → Fresh w' base A c
theorem Box2.write {w : World} {g : Nat} {b : Bool} {A : Option Addr} {l c : Nat} (h : Box2 w g (.bool b) (.slice A l c)) (x y : Value) :
    ∃ W, (w.setCell ⟨g, 0, none⟩ x).setCell ⟨g, 1, none⟩ y = W ∧ Hid (Box2 W g x y) ∧ Put g w W :=
  ⟨_, rfl, Lib.hid h.store, ⟨ext_store2 h.nums, fun _ _ _ hf => Fresh.set (Fresh.set hf g 0 x) g 1 y⟩⟩
theorem Box2.write0 {w : World} {g : Nat} {b : Bool} {A : Option Addr} {l c : Nat} (h : Box2 w g (.bool b) (.slice A l c)) (x : Value) :
    ∃ W, w.setCell ⟨g, 0, none⟩ x = W ∧ Hid (Box2 W g x (.slice A l c)) ∧ Put g w W := by
  refine ⟨_, rfl, Lib.hid ?_, ⟨?_, fun _ _ _ hf => Fresh.set hf g 0 x⟩⟩
  · unfold Box2 at h ⊢
    simp [World.setCell, Array.getElem?_modify, h]
  · refine ⟨rfl, rfl, rfl, by simp, fun i hi hn => ?_, fun i hi _ => by subst hi; exact h.nums⟩
    rw [Below.heap_setCell _ _ _ i (by simpa using hn)]
theorem Lim.put {w w' : World} {g : Nat} {A : Option Addr} {xs : List Nat} (h : Lim w w.heap.size A xs) (p : Put g w w') : Lim w' w'.heap.size A xs := (h.ext (Nat.le_refl _) p.ext).more p.ext.size
theorem IntV.put {w w' : World} {g : Nat} {v : Value} {z : Int} (h : IntV w v z) (p : Put g w w') : IntV w' v z := by
  obtain ⟨A, l, c, rfl, hl, hc, hlim⟩ := h
  exact ⟨A, l, c, rfl, hl, hc, hlim.put p⟩
theorem RawV.put {w w' : World} {g : Nat} {v : Value} {x : Raw} (h : RawV w v x) (p : Put g w w') : RawV w' v x := by
  obtain ⟨A, l, c, rfl, hl, hc, hlim⟩ := h
  exact ⟨A, l, c, rfl, hl, hc, hlim.put p⟩
theorem RawAt.put {w w' : World} {g base : Nat} {v : Value} {x : Raw} (h : RawAt w base v x) (p : Put g w w') : RawAt w' base v x := by
  obtain ⟨A, l, c, rfl, hl, hc, hlim, hf⟩ := h
  exact ⟨A, l, c, rfl, hl, hc, hlim.put p, p.fresh _ _ _ hf⟩
theorem NatAt.put {w w' : World} {g : Nat} {v : Value} {n : Nat} (h : NatAt w v n) (p : Put g w w') : NatAt w' v n := by
  obtain ⟨A, l, c, rfl, hl, hc, hlim⟩ := h
  exact ⟨A, l, c, rfl, hl, hc, hlim.put p⟩
theorem Fresh.put {w w' : World} {g base : Nat} {A : Option Addr} {c : Nat} (h : Fresh w base A c) (p : Put g w w') : Fresh w' base A c := p.fresh _ _ _ h
theorem Blocks.put {w w' : World} {g n : Nat} (h : Blocks w n) (p : Put g w w') : Blocks w' n := Nat.le_trans h p.ext.size
theorem Box2.put {w w' : World} {g h : Nat} {x y : Value} (hb : Box2 w h x y) (p : Put g w w') (hn : h ≠ g) : Box2 w' h x y := hb.ext p.ext hn
theorem Since.put {w0 w w' : World} {g : Nat} (h : Since w0 w) (p : Put g w w') (hg : w0.heap.size ≤ g) : Since w0 w' := by
  refine ⟨p.ext.os.trans h.os, p.ext.tape.trans h.tape, p.ext.output.trans h.output, Nat.le_trans h.size p.ext.size, fun i hi => ?_⟩
  rw [p.ext.block i (Nat.lt_of_lt_of_le hi h.size) (by omega)]
  exact h.block i hi
/-- New boxes, by name. -/
theorem boxH (w : World) (x y : Value) : ∃ W g, w.alloc (.cells #[x, y] 24) = W ∧ w.heap.size = g ∧ Hid (Box2 W g x y) ∧ Hid (w.heap.size = g) ∧ Hid (W.heap.size = g + 1) ∧ Below w.heap.size w W :=
  ⟨_, _, rfl, rfl, Lib.hid (heap_alloc_new w _), Lib.hid rfl, Lib.hid (by simp), (Below.refl _ _).alloc (Nat.le_refl _) _⟩
theorem boxH2 (w : World) (x y x' y' : Value) : ∃ W g r, (w.alloc (.cells #[x, y] 24)).alloc (.cells #[x', y'] 24) = W ∧ w.heap.size = g ∧ w.heap.size + 1 = r ∧ Hid (Box2 W g x y) ∧ Hid (Box2 W r x' y') ∧ Hid (w.heap.size = g ∧ g + 1 = r) ∧ Hid (W.heap.size = g + 2) ∧ Below w.heap.size w W := by
  obtain ⟨W, g, r, hW, hg, hr, hgr, b1, b2, hb, hs⟩ := box_two w x y x' y'
  exact ⟨W, g, r, hW, hg, hr, Lib.hid b1, Lib.hid b2, Lib.hid ⟨hg, hgr⟩, Lib.hid hs, by rw [hg]; exact hb⟩
theorem boxH3 (w : World) (x y x' y' x2 y2 : Value) : ∃ W g h r, ((w.alloc (.cells #[x, y] 24)).alloc (.cells #[x', y'] 24)).alloc (.cells #[x2, y2] 24) = W ∧ w.heap.size = g ∧ w.heap.size + 1 = h ∧ w.heap.size + 1 + 1 = r ∧ Hid (Box2 W g x y) ∧ Hid (Box2 W h x' y') ∧ Hid (Box2 W r x2 y2) ∧ Hid (w.heap.size = g ∧ g + 1 = h ∧ g + 2 = r) ∧ Hid (W.heap.size = g + 3) ∧ Below w.heap.size w W := by
  obtain ⟨W, g, h, r, hW, hg, hh, hr, ⟨h1, h2⟩, b1, b2, b3, hb, hs⟩ := box_three w x y x' y' x2 y2
  exact ⟨W, g, h, r, hW, hg, hh, hr, Lib.hid b1, Lib.hid b2, Lib.hid b3, Lib.hid ⟨hg, h1, h2⟩, Lib.hid hs, by rw [hg]; exact hb⟩
end Go.Proofs.Ytonbhpadoplpkaa
