import Derived.Test.YtonbhpadoplpkaaNat6
import Derived.Test.YtonbhpadoplpkaaPlan
import Derived.Lib.SliceRun
/-
Whole numbers in memory: a pointer's block holds the sign and a slice of limbs; limbs, once in a number, are never written.
-/
namespace Go.Proofs.Ytonbhpadoplpkaa
open Go.RowKit Go.Deep
/-- A block without limbs. -/
def NoNum (w : World) (g : Nat) : Prop := ∀ p : Addr, p.block = g → ∀ n : Int, w.cell? p ≠ some (.int .u64 n)

/-- Since w nothing was written but in the blocks G, which hold no limbs. -/
structure Ext (G : Nat → Prop) (w w' : World) : Prop where
  os : w'.os = w.os
  tape : w'.tape = w.tape
  output : w'.output = w.output
  size : w.heap.size ≤ w'.heap.size
  block : ∀ i, i < w.heap.size → ¬ G i → w'.heap[i]? = w.heap[i]?
  num : ∀ i, G i → i < w.heap.size → NoNum w i

theorem cell_of_block {w w' : World} {p : Addr} (h : w'.heap[p.block]? = w.heap[p.block]?) : w'.cell? p = w.cell? p := by
  unfold World.cell?; rw [h]
theorem NoNum.of_block {w w' : World} {g : Nat} (h : NoNum w g) (e : w'.heap[g]? = w.heap[g]?) : NoNum w' g := by
  intro p hp n
  rw [cell_of_block (w := w) (by rw [hp]; exact e)]
  exact h p hp n
theorem Ext.refl (G : Nat → Prop) (w : World) (h : ∀ i, G i → i < w.heap.size → NoNum w i) : Ext G w w := ⟨rfl, rfl, rfl, Nat.le_refl _, fun _ _ _ => rfl, h⟩
theorem Ext.of_below {w w' : World} (h : Below w.heap.size w w') : Ext (fun _ => False) w w' := ⟨h.os, h.tape, h.output, h.size, fun i hi _ => h.block i hi, fun _ h => h.elim⟩
theorem Ext.below {w w' : World} (h : Ext (fun _ => False) w w') : Below w.heap.size w w' := ⟨h.os, h.tape, h.output, h.size, fun i hi => h.block i hi (fun h => h)⟩
theorem Ext.trans {G H : Nat → Prop} {w w1 w2 : World} (h : Ext G w w1) (k : Ext H w1 w2) : Ext (fun i => G i ∨ H i) w w2 := by
  refine ⟨k.os.trans h.os, k.tape.trans h.tape, k.output.trans h.output, Nat.le_trans h.size k.size, fun i hi hn => ?_, fun i hi hl => ?_⟩
  · exact (k.block i (Nat.lt_of_lt_of_le hi h.size) (fun e => hn (.inr e))).trans (h.block i hi (fun e => hn (.inl e)))
  · rcases hi with hi | hi
    · exact h.num i hi hl
    · by_cases hg : G i
      · exact h.num i hg hl
      · exact (k.num i hi (Nat.lt_of_lt_of_le hl h.size)).of_block (h.block i hl hg).symm
theorem Ext.mono {G H : Nat → Prop} {w w' : World} (h : Ext G w w') (hs : ∀ i, i < w.heap.size → G i → H i) (hn : ∀ i, H i → i < w.heap.size → NoNum w i) : Ext H w w' :=
  ⟨h.os, h.tape, h.output, h.size, fun i hi hx => h.block i hi (fun hg => hx (hs i hi hg)), hn⟩
/-- Only what is new was written. -/
theorem Ext.fresh {G : Nat → Prop} {w w' : World} (h : Ext G w w') (hs : ∀ i, G i → w.heap.size ≤ i) : Below w.heap.size w w' :=
  ⟨h.os, h.tape, h.output, h.size, fun i hi => h.block i hi (fun hg => by have := hs i hg; omega)⟩
theorem Ext.drewN {G : Nat → Prop} {w w' : World} (h : Ext G w w') (n : Nat) : Ext G w (w'.drewN n) := ⟨h.os, h.tape, h.output, h.size, h.block, h.num⟩

/-- The worlds that come to be since w. -/
structure Later (G : Nat → Prop) (w : World) where
  world : World
  ext : Ext G w world

/-- Limbs stay. -/
theorem Lim.ext {G : Nat → Prop} {w w' : World} {B : Nat} {A : Option Addr} {xs : List Nat} (h : Lim w B A xs) (hB : B ≤ w.heap.size) (e : Ext G w w') : Lim w' B A xs := by
  refine ⟨h.small, fun hn => ?_⟩
  obtain ⟨ad, ha, hb, hc⟩ := h.cells hn
  refine ⟨ad, ha, hb, fun j hj => ?_⟩
  have hbj := block_of_add ad j
  rw [cell_of_block (w := w)]
  · exact hc j hj
  · rw [hbj]
    refine e.block _ (by omega) fun hg => ?_
    exact e.num _ hg (by omega) (ad.add 0) (block_of_add ad 0) _ (hc 0 hn)

/-- In block g stands the whole number z. -/
def IntAt (w : World) (g : Nat) (z : Int) : Prop :=
  ∃ A c, w.heap[g]? = some (.cells #[.bool (decide (z < 0)), .slice A (limbs z.natAbs).length c] 99) ∧ (limbs z.natAbs).length ≤ c ∧ Lim w w.heap.size A (limbs z.natAbs)
theorem noNum_of_int {w : World} {g : Nat} {b : Bool} {A : Option Addr} {l c : Nat} (h : w.heap[g]? = some (.cells #[.bool b, .slice A l c] 99)) : NoNum w g := by
  intro p hp n
  obtain ⟨pb, off, m⟩ := p
  obtain rfl : pb = g := hp
  unfold World.cell?
  simp only [h]
  split
  · simp
  · rcases off with _ | _ | off <;> simp
theorem IntAt.num {w : World} {g : Nat} {z : Int} (h : IntAt w g z) : NoNum w g := by
  obtain ⟨A, c, h, _⟩ := h
  exact noNum_of_int h
theorem IntAt.lt {w : World} {g : Nat} {z : Int} (h : IntAt w g z) : g < w.heap.size := by
  obtain ⟨A, c, h, _⟩ := h
  exact (Array.getElem?_eq_some_iff.1 h).1
theorem IntAt.ext {G : Nat → Prop} {w w' : World} {g : Nat} {z : Int} (h : IntAt w g z) (e : Ext G w w') (hg : ¬ G g) : IntAt w' g z := by
  have hl := h.lt
  obtain ⟨A, c, h, hc, hlim⟩ := h
  exact ⟨A, c, by rw [e.block g hl hg]; exact h, hc, (hlim.ext (Nat.le_refl _) e).more e.size⟩
theorem IntAt.below {w w' : World} {g : Nat} {z : Int} (h : IntAt w g z) (e : Below w.heap.size w w') : IntAt w' g z := h.ext (Ext.of_below e) (fun h => h)
theorem IntAt.drewN {w : World} {g : Nat} {z : Int} (h : IntAt w g z) (n : Nat) : IntAt (w.drewN n) g z := by
  obtain ⟨A, c, h, hc, hlim⟩ := h
  exact ⟨A, c, h, hc, hlim.drewN n⟩
/-- 'new(Int)'. -/
theorem IntAt.fresh (w : World) : IntAt (w.alloc (.cells #[.bool false, .slice none 0 0] 99)) w.heap.size 0 :=
  ⟨none, 0, by rw [heap_alloc_new]; simp [limbs_zero], by simp [limbs_zero], by simpa [limbs_zero] using Lim.nil _ _ _⟩
/-- The number of a sign and a size. -/
def signed (neg : Bool) (n : Nat) : Int := if neg then -(n : Int) else n
theorem signed_natAbs (b : Bool) (n : Nat) : (signed b n).natAbs = n := by cases b <;> simp [signed]
theorem signed_neg (b : Bool) (n : Nat) : decide (signed b n < 0) = (b && decide (n ≠ 0)) := by
  cases b
  · show decide ((n : Int) < 0) = false
    exact decide_eq_false (by omega)
  · show decide (-(n : Int) < 0) = (true && decide (n ≠ 0))
    rw [Bool.true_and, decide_eq_decide]; omega
theorem signed_of (z : Int) : signed (decide (z < 0)) z.natAbs = z := by
  by_cases h : z < 0
  · rw [decide_eq_true h]; show -(z.natAbs : Int) = z; omega
  · rw [decide_eq_false h]; show (z.natAbs : Int) = z; omega

theorem some_limbs (n : Nat) : decide (0 < (limbs n).length) = decide (n ≠ 0) := by
  rw [decide_eq_decide]
  constructor
  · intro h e; subst e; simp [limbs_zero] at h
  · intro h; exact List.length_pos_iff.2 fun e => h (limbs_eq_nil.1 e)
theorem cell0_int {w : World} {g : Nat} {b : Bool} {A : Option Addr} {l c : Nat} (h : w.heap[g]? = some (.cells #[.bool b, .slice A l c] 99)) : w.cell? ⟨g, 0, none⟩ = some (.bool b) := by
  unfold World.cell?; simp [h]
theorem cell1_int {w : World} {g : Nat} {b : Bool} {A : Option Addr} {l c : Nat} (h : w.heap[g]? = some (.cells #[.bool b, .slice A l c] 99)) : w.cell? ⟨g, 1, none⟩ = some (.slice A l c) := by
  unfold World.cell?; simp [h]
theorem free_int {w : World} {g : Nat} {b : Bool} {A : Option Addr} {l c : Nat} (h : w.heap[g]? = some (.cells #[.bool b, .slice A l c] 99)) (k : Nat) : w.frozen? ⟨g, k, none⟩ = false := by
  simp [World.frozen?, h]
theorem put_world {w : World} {g : Nat} {b : Bool} {A0 : Option Addr} {l0 c0 : Nat} (h : w.heap[g]? = some (.cells #[.bool b, .slice A0 l0 c0] 99)) (d : Bool) (A : Option Addr) (l c : Nat) :
    ((w.setCell ⟨g, 1, none⟩ (.slice A l c)).setCell ⟨g, 0, none⟩ (.bool d)).heap[g]? = some (.cells #[.bool d, .slice A l c] 99) ∧
    Ext (· = g) w ((w.setCell ⟨g, 1, none⟩ (.slice A l c)).setCell ⟨g, 0, none⟩ (.bool d)) := by
  have e1 : (w.setCell ⟨g, 1, none⟩ (.slice A l c)).heap[g]? = some (.cells #[.bool b, .slice A l c] 99) := by
    simp [World.setCell, Array.getElem?_modify, h]
  generalize hw1 : w.setCell ⟨g, 1, none⟩ (.slice A l c) = w1 at *
  refine ⟨by simp [World.setCell, Array.getElem?_modify, e1], ?_⟩
  subst hw1
  refine ⟨rfl, rfl, rfl, by simp, fun i hi hn => ?_, fun i hi _ => by subst hi; exact noNum_of_int h⟩
  rw [Below.heap_setCell _ _ _ i (by simpa using hn), Below.heap_setCell _ _ _ i (by simpa using hn)]
theorem int_put (g : Nat) (b b0 : Bool) (A A0 : Option Addr) (c l0 c0 : Nat) (xs : List Nat) (w : World) (hg : w.heap[g]? = some (.cells #[.bool b0, .slice A0 l0 c0] 99)) (h1 : Lim w w.heap.size A xs) (hc : xs.length ≤ c) (hl : xs.length ≤ 1099511627776) :
    Calls Try.prog 99 #[.pointer (some ⟨g, 0, none⟩), .bool b, .slice A xs.length c] w fun e w' => e = .returned (.pointer (some ⟨g, 0, none⟩)) ∧ IntAt w' g (signed b (val xs)) ∧ Ext (· = g) w w' := by
  have ht := Lib.hid (big_trim A c xs w h1 hc (by omega))
  have hc0 := cell0_int hg
  have hc1 := cell1_int hg
  have hf0 := free_int hg 0
  have hf1 := free_int hg 1
  have HG := Lib.hid hg
  clear hg
  cases b
  · go_enter Try.func99, Try.ntmps99
    go_wp2_with fail
    refine ht.out.mono ?_
    rintro e w1 ⟨rfl, rfl⟩
    go_wp2_with fail
    go_ret
    obtain ⟨h3, h4⟩ := put_world HG.out false A (limbs (val xs)).length c
    exact ⟨by rfl, ⟨A, c, by rw [h3, signed_neg, signed_natAbs]; rfl, by rw [signed_natAbs]; exact Nat.le_trans (limbs_val_le h1.small) hc, by rw [signed_natAbs]; exact (h1.trim.ext (Nat.le_refl _) h4).more h4.size⟩, h4⟩
  · go_enter Try.func99, Try.ntmps99
    go_wp2_with fail
    refine ht.out.mono ?_
    rintro e w1 ⟨rfl, rfl⟩
    go_wp2_with fail
    go_ret
    obtain ⟨h3, h4⟩ := put_world HG.out (decide (0 < (limbs (val xs)).length)) A (limbs (val xs)).length c
    exact ⟨by rfl, ⟨A, c, by rw [h3, signed_neg, signed_natAbs, Bool.true_and, some_limbs], by rw [signed_natAbs]; exact Nat.le_trans (limbs_val_le h1.small) hc, by rw [signed_natAbs]; exact (h1.trim.ext (Nat.le_refl _) h4).more h4.size⟩, h4⟩
/-- The limbs of what stands there. -/
theorem int_put' (g : Nat) (z0 : Int) (b : Bool) (A : Option Addr) (c : Nat) (xs : List Nat) (w : World) (hg : IntAt w g z0) (h1 : Lim w w.heap.size A xs) (hc : xs.length ≤ c) (hl : xs.length ≤ 1099511627776) :
    Calls Try.prog 99 #[.pointer (some ⟨g, 0, none⟩), .bool b, .slice A xs.length c] w fun e w' => e = .returned (.pointer (some ⟨g, 0, none⟩)) ∧ IntAt w' g (signed b (val xs)) ∧ Ext (· = g) w w' := by
  obtain ⟨A0, c0, h, _⟩ := hg
  exact int_put g b _ A A0 c _ c0 xs w h h1 hc hl
/-- No block. -/
def Nix : Nat → Prop := fun _ => False
theorem nix_drawn (w : World) : Ext Nix w (w.drewN 1) := (Ext.refl Nix w (fun _ h => h.elim)).drewN 1
instance (w : World) : Nonempty (Later Nix w) := ⟨⟨w, Ext.refl Nix w (fun _ h => h.elim)⟩⟩
theorem Later.sign {w : World} {g : Nat} {b : Bool} {A : Option Addr} {l c : Nat} (h : w.heap[g]? = some (.cells #[.bool b, .slice A l c] 99)) (δ : Later Nix w) : δ.world.cell? ⟨g, 0, none⟩ = some (.bool b) :=
  cell0_int (by rw [δ.ext.block g (Array.getElem?_eq_some_iff.1 h).1 (fun h => h)]; exact h)
theorem Later.size {w : World} {g : Nat} {b : Bool} {A : Option Addr} {l c : Nat} (h : w.heap[g]? = some (.cells #[.bool b, .slice A l c] 99)) (δ : Later Nix w) : δ.world.cell? ⟨g, 1, none⟩ = some (.slice A l c) :=
  cell1_int (by rw [δ.ext.block g (Array.getElem?_eq_some_iff.1 h).1 (fun h => h)]; exact h)
theorem Ext.later {w w1 w2 : World} (h : Ext Nix w w1) (k : Ext (fun _ => False) w1 w2) : Ext Nix w w2 :=
  (h.trans k).mono (fun _ _ hi => hi.elim (fun h => h) (fun h => h)) (fun _ h => h.elim)
/-- After a call that wrote nothing old, one that wrote g. -/
theorem Ext.after {g : Nat} {w w1 w2 : World} (h : Ext Nix w w1) (k : Ext (· = g) w1 w2) (hn : NoNum w g) : Ext (· = g) w w2 :=
  (h.trans k).mono (fun i _ hi => hi.elim (fun h => h.elim) (fun h => h)) (fun i hi _ => by subst hi; exact hn)

set_option maxRecDepth 100000 in
theorem clone_limbs (A : Option Addr) (c : Nat) (xs : List Nat) (w : World) {B : Nat} (hB : B ≤ w.heap.size) (h1 : Lim w B A xs) (hc : xs.length ≤ c) (hl : xs.length ≤ 1099511627776) :
    Calls Try.prog 42 #[.slice A xs.length c] w fun e w' => ∃ A' c', e = .returned (.slice A' xs.length c') ∧ xs.length ≤ c' ∧ Lim w' w'.heap.size A' xs ∧ Below w.heap.size w w' := by
  have HL := Lib.hid hl
  have HC := Lib.hid hc
  clear hl hc
  cases A with
  | none =>
    have hx : xs = [] := by
      rcases xs with _ | ⟨x, xs⟩
      · rfl
      · obtain ⟨ad, e, _⟩ := h1.cells (by simp)
        cases e
    subst hx
    have hnil : ∀ W, (binOp .eql 22 (.slice none 0 c) (.slice none 0 0)).run Try.prog W = .ok (.bool true) W := fun W => Lib.run_eql_slice_nil W _ 53 none 0 c 0 0 (by kernel_rfl)
    go_enter Try.func42, Try.ntmps42
    go_wp2_with fail
    go_ret
    exact ⟨none, 0, rfl, by simp, Lim.nil _ _ _, Below.refl _ _⟩
  | some ad =>
    have hnil : ∀ W, (binOp .eql 22 (.slice (some ad) xs.length c) (.slice none 0 0)).run Try.prog W = .ok (.bool false) W := fun W => Lib.run_eql_slice_nil W _ 53 (some ad) xs.length c 0 0 (by kernel_rfl)
    go_enter Try.func42, Try.ntmps42
    have HO : Own (w.alloc (.cells #[] 53)) w.heap.size (.slice (some ⟨w.heap.size, 0, none⟩) 0 0) [] := by
      have h := Own.made w w.heap.size 0 0 (Nat.le_refl _) (Nat.le_refl _) (by omega)
      rwa [show madeCells #[.int .u64 0] 0 = #[] by simp [madeCells]] at h
    have HB : Below w.heap.size w (w.alloc (.cells #[] 53)) := (Below.refl _ _).alloc (Nat.le_refl _) _
    go_wp2_with (at_builtin; refine append_lim (w0 := w) w.heap.size rfl _ _ rfl _ [] (some ad) xs.length c xs (by rfl) (by rfl) rfl (h1.alloc hB _) HO HB HB.size (by have := HL.out; simp; omega) fun v1 w1 hown hbel hgrow _ => ?_)
    obtain ⟨A, c', hv, hc', hlim, _⟩ := hown.form
    rw [hv]
    go_wp2_with fail
    go_ret
    exact ⟨A, c', by rfl, by simpa using hc', by simpa using hlim, hbel⟩
end Go.Proofs.Ytonbhpadoplpkaa
